-- Written by xprint.py of this session: out of the translation, by the kit's print with contracts of this session.
import Derived.Test.YtemnidhllbbjnaaXFnExactPlayTablex0
import Derived.Test.YtemnidhllbbjnaaXFnExactPlayTablex3
namespace Go.Proofs.Ytemnidhllbbjnaa.XFnExactPlayTable
open Go.RowKit Go.Proofs.YtemnidhllbbjnaaW.PrintWords Go.Proofs.YtemnidhllbbjnaaW.PrintLast Go.Proofs.YtemnidhllbbjnaaW.PrintMore
open Go.Proofs.Ytemnidhllbbjnaa.Min0
attribute [local go_sem] max2_int min2_int max_two min_two max_three min_three max_four min_four   -- for this text's walks alone
set_option linter.unusedVariables false
set_option linter.unusedSimpArgs false

/-! ### slices_IndexFunc_int_int: function 79 -/
def slices_IndexFunc_int_int.l0 : Nat → List Int → Int → Int → Option (Int)
 | 0, _, _, _ => none
 | k + 1, x0, x7, x8 => if x8 < x7 then (if 0 ≤ x8 then (if x8 < (x0.length : Int) then ((impl_PlayTable_1.f (rd x0 x8)).bind fun t221 => (if t221 = true then (some x8) else (slices_IndexFunc_int_int.l0 k x0 x7 (wrap64 (x8 + 1))))) else (none)) else (none)) else (some (-1))
def slices_IndexFunc_int_int.f (k : Nat) (l0 : List Int) (a1 : Int) : Option (Int) := slices_IndexFunc_int_int.l0 k l0 (l0.length : Int) 0
theorem slices_IndexFunc_int_int.mono_l : ∀ k, (∀ y0 y1 y2, LeO (slices_IndexFunc_int_int.l0 k y0 y1 y2) (slices_IndexFunc_int_int.l0 (k + 1) y0 y1 y2))
 | 0 => fun _ _ _ r h => by simp [slices_IndexFunc_int_int.l0] at h
 | k + 1 => by
  have ih0 := slices_IndexFunc_int_int.mono_l k
  ·intro y0 y1 y2
   unfold slices_IndexFunc_int_int.l0
   repeat' first
   | (with_reducible exact ih0 _ _ _)
   | (with_reducible exact LeO.refl _)
   | (with_reducible exact LeO.none _)
   | (with_reducible refine LeO.ite ?_ ?_)
   | (with_reducible refine LeO.bind ?_ (fun _ => ?_))
   | exact ih0 _ _ _
   | exact LeO.none _
   | refine LeO.ite ?_ ?_
   | refine LeO.bind ?_ (fun _ => ?_)
theorem slices_IndexFunc_int_int.mono : ∀ a0 a1 k, LeO (slices_IndexFunc_int_int.f k a0 a1) (slices_IndexFunc_int_int.f (k + 1) a0 a1) := by
 intro a0 a1 k
 have ih0 := slices_IndexFunc_int_int.mono_l k
 unfold slices_IndexFunc_int_int.f
 repeat' first
   | (with_reducible exact ih0 _ _ _)
   | (with_reducible exact LeO.refl _)
   | (with_reducible exact LeO.none _)
   | (with_reducible refine LeO.ite ?_ ?_)
   | (with_reducible refine LeO.bind ?_ (fun _ => ?_))
   | exact ih0 _ _ _
   | exact LeO.none _
   | refine LeO.ite ?_ ?_
   | refine LeO.bind ?_ (fun _ => ?_)
set_option maxHeartbeats 8000000 in
set_option maxRecDepth 100000 in
theorem slices_IndexFunc_int_int.calls (k : Nat) (A0 : Option Addr) (c0 : Nat) (l0 : List Int) (a1 : Int) (r : Int) (w : World) (hr0 : Kd.C (Kd.int .i64) w A0 l0.length l0) (hc0 : l0.length ≤ c0) (h : slices_IndexFunc_int_int.f k l0 a1 = some r) :
  Calls Try.prog 79 #[.slice A0 l0.length c0, .func (.func 53) #[] #[]] w fun e w' => e = .returned (.int .i64 r) ∧ Drawn0 w w' := by
 have HR0 := Aside0.mk hr0
 have HC0 := Aside0.mk hc0
 clear hr0 hc0
 have H : (slices_IndexFunc_int_int.l0 k l0 (l0.length : Int) 0) = some r := h
 clear h
 have H' := Aside0.mk H
 clear H
 go_enter Try.func79, Try.ntmps79
 go_wp2
 go_loopg [8] k (fun kq v8 w' => ∃ (x8_1 : Int), v8 = .int .i64 x8_1 ∧ Aside0 (slices_IndexFunc_int_int.l0 kq l0 (l0.length : Int) x8_1 = some r) ∧ Aside0 (kq ≤ k) ∧ Drawn0 w w')
 case atStart => exact ⟨(0), (by first | rfl | (simp; done) | (simp [*]; done)), H', ⟨Nat.le_refl _⟩, by repeat (first | exact Drawn0.refl _ | apply Drawn0.step)⟩
 case round =>
  clear H'
  try clear p2
  obtain ⟨x8_1, rfl, HA, HK1, ⟨m1, rfl⟩⟩ := hrel
  cases gk with
  | zero => exact absurd HA.out (by simp [slices_IndexFunc_int_int.l0])
  | succ k1 =>
   have H := HA.out
   clear HA
   simp only [slices_IndexFunc_int_int.l0] at H
   by_cases c3 : x8_1 < (l0.length : Int)
   ·rw [if_pos c3] at H
    have c3b0 : decide (x8_1 < (l0.length : Int)) = true := decide_eq_true c3
    clear c3
    by_cases c4 : 0 ≤ x8_1
    ·rw [if_pos c4] at H
     have c4b0 : decide (0 ≤ x8_1) = true := decide_eq_true c4
     clear c4
     by_cases c5 : x8_1 < (l0.length : Int)
     ·rw [if_pos c5] at H
      have c5b0 : decide (x8_1 < (l0.length : Int)) = true := decide_eq_true c5
      clear c5
      replace H := Option.bind_eq_some_iff.mp H
      obtain ⟨t221, A60, H⟩ := H
      replace H : (if t221 = true then (some x8_1) else (slices_IndexFunc_int_int.l0 k1 l0 (l0.length : Int) (wrap64 (x8_1 + 1)))) = some r := H
      have A6 := Aside0.mk A60
      clear A60
      by_cases c7 : t221 = true
      ·subst c7
       have H1 : (some x8_1) = some r := by rw [if_pos rfl] at H; exact H
       clear H
       have H := H1
       clear H1
       obtain rfl := Option.some.inj H
       have p220 : 0 ≤ (x8_1 : Int) := of_decide_eq_true (by first | (with_reducible assumption) | assumption)
       have q220 : x8_1 < (l0.length : Int) := of_decide_eq_true (by first | (with_reducible assumption) | assumption)
       obtain ⟨ad220, e220, hx220_0⟩ := Kd.at_int HR0.out x8_1 p220 q220
       cases e220
       replace p220 := eq_true p220
       replace q220 := eq_true q220
       go_wp2_with (first | ((with_reducible refine gate_calleeV rfl ?_); refine goesLV_ (some 16) rfl rfl Try.func53 (by kernel_rfl) rfl #[.int .i64 (rd l0 x8_1)] rfl (by rfl) (by (try simp only [List.map_toArray, List.map_cons, List.map_nil]); first | done | rfl | (simp only [List.length_drop, List.length_take]; rfl)) ?_; (with_reducible refine (impl_PlayTable_1.calls (rd l0 x8_1) true _ A6.out).mono ?_); rintro e w' ⟨rfl, ⟨nd, rfl⟩⟩; refine ⟨_, rfl, ?_⟩))
       go_ret
       exact ⟨by first | rfl | (simp; done) | (simp [*]; done), by repeat (first | exact Drawn0.refl _ | apply Drawn0.step)⟩
      ·replace c7 := Bool.eq_false_iff.mpr c7
       subst c7
       have H1 : (slices_IndexFunc_int_int.l0 k1 l0 (l0.length : Int) (wrap64 (x8_1 + 1))) = some r := by rw [if_neg (show ¬ (false = true) by decide)] at H; exact H
       clear H
       have H := H1
       clear H1
       have H' := Aside0.mk H
       clear H
       have p220 : 0 ≤ (x8_1 : Int) := of_decide_eq_true (by first | (with_reducible assumption) | assumption)
       have q220 : x8_1 < (l0.length : Int) := of_decide_eq_true (by first | (with_reducible assumption) | assumption)
       obtain ⟨ad220, e220, hx220_0⟩ := Kd.at_int HR0.out x8_1 p220 q220
       cases e220
       replace p220 := eq_true p220
       replace q220 := eq_true q220
       go_wp2_with (first | ((with_reducible refine gate_calleeV rfl ?_); refine goesLV_ (some 16) rfl rfl Try.func53 (by kernel_rfl) rfl #[.int .i64 (rd l0 x8_1)] rfl (by rfl) (by (try simp only [List.map_toArray, List.map_cons, List.map_nil]); first | done | rfl | (simp only [List.length_drop, List.length_take]; rfl)) ?_; (with_reducible refine (impl_PlayTable_1.calls (rd l0 x8_1) false _ A6.out).mono ?_); rintro e w' ⟨rfl, ⟨nd, rfl⟩⟩; refine ⟨_, rfl, ?_⟩))
       go_roundg k1
       case measure => have := HK1.out; omega
       case rel => exact ⟨(wrap64 (x8_1 + 1)), (by first | rfl | (simp; done) | (simp [*]; done)), H', ⟨by have := HK1.out; omega⟩, by repeat (first | exact Drawn0.refl _ | apply Drawn0.step)⟩
     ·rw [if_neg c5] at H
      exact absurd H (by simp)
    ·rw [if_neg c4] at H
     exact absurd H (by simp)
   ·rw [if_neg c3] at H
    have c3b0 : decide (x8_1 < (l0.length : Int)) = false := decide_eq_false c3
    clear c3
    obtain rfl := Option.some.inj H
    go_wp2
    go_ret
    exact ⟨by first | rfl | (simp; done) | (simp [*]; done), by repeat (first | exact Drawn0.refl _ | apply Drawn0.step)⟩

/-! ### slices_ContainsFunc_int_int: function 52 -/
def slices_ContainsFunc_int_int.f (k : Nat) (l0 : List Int) (a1 : Int) : Option (Bool) := (slices_IndexFunc_int_int.f k l0 99000053).bind fun t222 => (some (decide (t222 ≥ 0)))
theorem slices_ContainsFunc_int_int.mono : ∀ a0 a1 k, LeO (slices_ContainsFunc_int_int.f k a0 a1) (slices_ContainsFunc_int_int.f (k + 1) a0 a1) := by
 intro a0 a1 k
 unfold slices_ContainsFunc_int_int.f
 repeat' first
   | (with_reducible exact slices_IndexFunc_int_int.mono _ _ _)
   | (with_reducible exact LeO.refl _)
   | (with_reducible exact LeO.none _)
   | (with_reducible refine LeO.ite ?_ ?_)
   | (with_reducible refine LeO.bind ?_ (fun _ => ?_))
   | exact slices_IndexFunc_int_int.mono _ _ _
   | exact LeO.none _
   | refine LeO.ite ?_ ?_
   | refine LeO.bind ?_ (fun _ => ?_)
set_option maxHeartbeats 8000000 in
set_option maxRecDepth 100000 in
theorem slices_ContainsFunc_int_int.calls (k : Nat) (A0 : Option Addr) (c0 : Nat) (l0 : List Int) (a1 : Int) (r : Bool) (w : World) (hr0 : Kd.C (Kd.int .i64) w A0 l0.length l0) (hc0 : l0.length ≤ c0) (h : slices_ContainsFunc_int_int.f k l0 a1 = some r) :
  Calls Try.prog 52 #[.slice A0 l0.length c0, .func (.func 53) #[] #[]] w fun e w' => e = .returned (.bool r) ∧ Drawn0 w w' := by
 have HR0 := Aside0.mk hr0
 have HC0 := Aside0.mk hc0
 clear hr0 hc0
 have H : ((slices_IndexFunc_int_int.f k l0 99000053).bind fun t222 => (some (decide (t222 ≥ 0)))) = some r := h
 clear h
 replace H := Option.bind_eq_some_iff.mp H
 obtain ⟨t222, A30, H⟩ := H
 replace H : (some (decide (t222 ≥ 0))) = some r := H
 have A3 := Aside0.mk A30
 clear A30
 obtain rfl := Option.some.inj H
 go_enter Try.func52, Try.ntmps52
 go_wp2_with (first | ((with_reducible refine gate_callee (f := 79) rfl ?_); refine goesL_ (some 7) rfl rfl Try.func79 (by kernel_rfl) rfl #[.slice A0 l0.length c0, .func (.func 53) #[] #[]] rfl (by (try simp only [List.map_toArray, List.map_cons, List.map_nil]); first | done | rfl | (simp only [List.length_drop, List.length_take]; rfl)) ?_; (with_reducible refine (slices_IndexFunc_int_int.calls k _ _ l0 99000053 t222 _ ?side1 ?side2 A3.out).mono ?_); (case side1 => repeat (first | exact HR0.out | (with_reducible refine Kd.C_alloc ?_ _) | (with_reducible refine Kd.C_drewN ?_ _) | (with_reducible refine Kd.C_drew ?_))); (case side2 => exact HC0.out); rintro e w' ⟨rfl, ⟨nd, rfl⟩⟩; refine ⟨_, rfl, ?_⟩))
 go_ret
 exact ⟨by first | rfl | (simp; done) | (simp [*]; done), by repeat (first | exact Drawn0.refl _ | apply Drawn0.step)⟩

/-! ### impl_placesOf: function 71 -/
def impl_placesOf.f (a0 : Int) (a1 : Int) : Option (Int × Int) := some (Int.tmod (wrap64 (a1 + a0)) 11, Int.tmod (wrap64 ((wrap64 (Int.tdiv a1 11)) + (wrap64 (3 * a0)))) 11)
set_option maxHeartbeats 8000000 in
set_option maxRecDepth 100000 in
theorem impl_placesOf.calls (a0 : Int) (a1 : Int) (r1 : Int) (r2 : Int) (w : World) (h : impl_placesOf.f a0 a1 = some (r1, r2)) :
  Calls Try.prog 71 #[.int .i64 a0, .int .i64 a1] w fun e w' => e = .returned (.tuple #[.int .i64 r1, .int .i64 r2]) ∧ Drawn0 w w' := by
 have H : (some (Int.tmod (wrap64 (a1 + a0)) 11, Int.tmod (wrap64 ((wrap64 (Int.tdiv a1 11)) + (wrap64 (3 * a0)))) 11)) = some (r1, r2) := h
 clear h
 simp only [Option.some.injEq, Prod.mk.injEq] at H
 obtain ⟨rfl, rfl⟩ := H
 go_enter Try.func71, Try.ntmps71
 go_wp2
 go_ret2
 exact ⟨by first | rfl | (simp; done) | (simp [*]; done), by repeat (first | exact Drawn0.refl _ | apply Drawn0.step)⟩

/-! ### impl_Table_find: function 66 -/

/-- Where a key's slot is: 1 to the left, 2 to the right, 0 nowhere; and its place. -/
def impl_Table_find.f (a0 : Int) (l1 l2 : List S79) (a1 : Int) : Option (Int × Int) :=
 (impl_placesOf.f a0 a1).bind fun p => if (0 ≤ p.1 ∧ p.1 < (l1.length : Int)) ∧ 0 ≤ p.2 ∧ p.2 < (l2.length : Int) then
  (if (rd_T79 l1 p.1).f0 = true ∧ (rd_T79 l1 p.1).f1 = a1 then some (1, p.1) else if (rd_T79 l2 p.2).f0 = true ∧ (rd_T79 l2 p.2).f1 = a1 then some (2, p.2) else some (0, 0)) else none
def impl_Table_find.ptr (g1 g2 : Nat) (s i : Int) : Option Addr := if s = 1 then some ⟨g1, i.toNat * 3, none⟩ else if s = 2 then some ⟨g2, i.toNat * 3, none⟩ else none
set_option maxHeartbeats 4000000 in
set_option maxRecDepth 100000 in
theorem impl_Table_find.calls (g g1 g2 c1 c2 : Nat) (a0 m : Int) (l1 l2 : List S79) (a1 s i : Int) (w : World)
  (hb : w.heap[g]? = some (.cells #[.int .i64 a0, .slice (some ⟨g1, 0, none⟩) l1.length c1, .slice (some ⟨g2, 0, none⟩) l2.length c2, .int .i64 m] 25 (0, 0)))
  (hr1 : Kd.C k79 w (some ⟨g1, 0, none⟩) l1.length l1) (hr2 : Kd.C k79 w (some ⟨g2, 0, none⟩) l2.length l2)
  (h : impl_Table_find.f a0 l1 l2 a1 = some (s, i)) :
  Calls Try.prog 66 #[.pointer (some ⟨g, 0, none⟩), .int .i64 a1] w fun e w' => e = .returned (.pointer (impl_Table_find.ptr g1 g2 s i)) ∧ Below w.heap.size w w' := by
 have hu25 := Try.underlying25
 have hu79 := Try.underlying79
 obtain ⟨⟨p, q⟩, hp, h⟩ := Option.bind_eq_some_iff.mp h
 have hP := Aside0.mk hp
 clear hp
 by_cases hin : (0 ≤ p ∧ p < (l1.length : Int)) ∧ 0 ≤ q ∧ q < (l2.length : Int)
 ·simp only [if_pos hin] at h
  obtain ⟨⟨p0, p1⟩, q0, q1⟩ := hin
  have H := Aside0.mk h
  clear h
  have hx0 : w.cell? ⟨g, 0, none⟩ = some (.int .i64 a0) := (blk_cell hb 0).trans rfl
  have hx1 : w.cell? ⟨g, 1, none⟩ = some (.slice (some ⟨g1, 0, none⟩) l1.length c1) := (blk_cell hb 1).trans rfl
  have hx2 : w.cell? ⟨g, 2, none⟩ = some (.slice (some ⟨g2, 0, none⟩) l2.length c2) := (blk_cell hb 2).trans rfl
  have HB := Aside0.mk hb
  have R1 := Aside0.mk hr1
  have R2 := Aside0.mk hr2
  clear hb hr1 hr2
  go_enter Try.func66, Try.ntmps66
  go_wp2_with (first | (go_at_call 71; (refine (impl_placesOf.calls a0 a1 p q _ hP.out).mono ?_); rintro e w1 ⟨rfl, ⟨nd, rfl⟩⟩))
  have y1 : (w.drewN nd).cell? ⟨g, 1, none⟩ = some (.slice (some ⟨g1, 0, none⟩) l1.length c1) := hx1
  have y2 : (w.drewN nd).cell? ⟨g, 2, none⟩ = some (.slice (some ⟨g2, 0, none⟩) l2.length c2) := hx2
  go_region_held3 (fun w' => w'.cell? ⟨g, 1, none⟩ = some (.slice (some ⟨g1, 0, none⟩) l1.length c1) ∧ w'.cell? ⟨g, 2, none⟩ = some (.slice (some ⟨g2, 0, none⟩) l2.length c2)) (go_keep) (fail)
  obtain ⟨h, hh⟩ : ∃ h : Nat, h = w.heap.size := ⟨_, rfl⟩
  rw [← hh]
  obtain ⟨W, hW⟩ : ∃ W : World, W = (w.drewN (nd + 1)).alloc (.cells #[.pointer (some ⟨g1, p.toNat * 3, none⟩), .pointer (some ⟨g2, q.toNat * 3, none⟩)] 80) := ⟨_, rfl⟩
  rw [← hW]
  have BW := Aside0.mk (show Below w.heap.size w W by rw [hW]; repeat (first | exact Below.refl _ _ | apply below_alloc | apply pw_below_drewN | apply below_drew1))
  have L := heap_alloc_new (w.drewN (nd + 1)) (.cells #[.pointer (some ⟨g1, p.toNat * 3, none⟩), .pointer (some ⟨g2, q.toNat * 3, none⟩)] 80)
  rw [← hW, show (w.drewN (nd + 1)).heap.size = h from hh.symm] at L
  have L0 := Aside0.mk (show W.cell? ⟨h, 0, none⟩ = some (.pointer (some ⟨g1, p.toNat * 3, none⟩)) from (blk_cell L 0).trans rfl)
  have L1 := Aside0.mk (show W.cell? ⟨h, 1, none⟩ = some (.pointer (some ⟨g2, q.toNat * 3, none⟩)) from (blk_cell L 1).trans rfl)
  obtain ⟨ad1, e1, r10, r11, _⟩ := at_T79 R1.out p p0 p1
  cases e1
  obtain ⟨ad2, e2, r20, r21, _⟩ := at_T79 R2.out q q0 q1
  cases e2
  replace r10 := (BW.out.cell (World.block_lt_of_cell? w _ r10)).trans r10
  replace r11 := (BW.out.cell (World.block_lt_of_cell? w _ r11)).trans r11
  replace r20 := (BW.out.cell (World.block_lt_of_cell? w _ r20)).trans r20
  replace r21 := (BW.out.cell (World.block_lt_of_cell? w _ r21)).trans r21
  have hz : ∀ g k : Nat, (⟨g, 0, none⟩ : Addr).add k = ⟨g, k, none⟩ := by
   intro g k
   by_cases hk : k = 0 <;> simp [Addr.add, hk]
  simp only [hz] at r10 r11 r20 r21
  generalize (rd_T79 l1 p).f0 = b1 at *
  generalize (rd_T79 l1 p).f1 = v1 at *
  generalize (rd_T79 l2 q).f0 = b2 at *
  generalize (rd_T79 l2 q).f1 = v2 at *
  have X0 := Aside0.mk (And.intro r10 r11)
  have X1 := Aside0.mk (And.intro r20 r21)
  clear hz hx0 hx1 hx2 y1 y2 r10 r11 r20 r21 L hW hh p0 p1 q0 q1 hP R1 R2 HB
  go_wp2
  go_loopg [32] 2 (fun gg v32 w' => ∃ i : Nat, i ≤ 2 ∧ 2 - i ≤ gg ∧ v32 = .int .i64 i ∧ w' = W ∧ Aside0 (1 ≤ i → ¬ (b1 = true ∧ v1 = a1)) ∧ Aside0 (2 ≤ i → ¬ (b2 = true ∧ v2 = a1)))
  case atStart => exact ⟨0, by omega, by omega, rfl, rfl, ⟨fun h_ => absurd h_ (by omega)⟩, ⟨fun h_ => absurd h_ (by omega)⟩⟩
  case round =>
   obtain ⟨i_, hi, hg, rfl, rfl, H1, H2⟩ := hrel
   obtain rfl | rfl | rfl : i_ = 0 ∨ i_ = 1 ∨ i_ = 2 := by omega
   ·-- place 0
    have hl : wr.cell? ⟨h, 0, none⟩ = some (.pointer (some ⟨g1, p.toNat * 3, none⟩)) := L0.out
    have hx0 : wr.cell? ⟨g1, p.toNat * 3, none⟩ = some (.bool b1) := X0.out.1
    have hx1 : wr.cell? ⟨g1, p.toNat * 3 + 1, none⟩ = some (.int .i64 v1) := X0.out.2
    cases b1 with
    | false =>
     go_wp2
     go_roundg 1
     case measure => omega
     case rel => exact ⟨1, by omega, by omega, by go_num, rfl, ⟨fun _ h_ => Bool.noConfusion h_.1⟩, ⟨fun h_ => absurd h_ (by omega)⟩⟩
    | true =>
     by_cases he : v1 = a1
     ·subst he
      go_wp2
      go_ret
      have h2 := H.out
      simp only [if_true, and_self, Option.some.injEq, Prod.mk.injEq] at h2
      obtain ⟨rfl, rfl⟩ := h2
      exact ⟨rfl, BW.out⟩
     ·have he' : (v1 == a1) = false := by simpa using he
      go_wp2
      go_roundg 1
      case measure => omega
      case rel => exact ⟨1, by omega, by omega, by go_num, rfl, ⟨fun _ h_ => he h_.2⟩, ⟨fun h_ => absurd h_ (by omega)⟩⟩
   ·-- place 1
    have hl : wr.cell? ⟨h, 1, none⟩ = some (.pointer (some ⟨g2, q.toNat * 3, none⟩)) := L1.out
    have hx0 : wr.cell? ⟨g2, q.toNat * 3, none⟩ = some (.bool b2) := X1.out.1
    have hx1 : wr.cell? ⟨g2, q.toNat * 3 + 1, none⟩ = some (.int .i64 v2) := X1.out.2
    cases b2 with
    | false =>
     go_wp2
     go_roundg 0
     case measure => omega
     case rel => exact ⟨2, by omega, by omega, by go_num, rfl, ⟨fun _ => H1.out (by omega)⟩, ⟨fun _ h_ => Bool.noConfusion h_.1⟩⟩
    | true =>
     by_cases he : v2 = a1
     ·subst he
      go_wp2
      go_ret
      have h2 := H.out
      rw [if_neg (H1.out (by omega))] at h2
      simp only [if_true, and_self, Option.some.injEq, Prod.mk.injEq] at h2
      obtain ⟨rfl, rfl⟩ := h2
      exact ⟨rfl, BW.out⟩
     ·have he' : (v2 == a1) = false := by simpa using he
      go_wp2
      go_roundg 0
      case measure => omega
      case rel => exact ⟨2, by omega, by omega, by go_num, rfl, ⟨fun _ => H1.out (by omega)⟩, ⟨fun _ h_ => he h_.2⟩⟩
   ·have h2 := H.out
    rw [if_neg (H1.out (by omega)), if_neg (H2.out (by omega))] at h2
    simp only [Option.some.injEq, Prod.mk.injEq] at h2
    obtain ⟨rfl, rfl⟩ := h2
    go_wp2
    go_ret
    exact ⟨rfl, BW.out⟩
 ·simp only [if_neg hin] at h
  cases h

/-- Two rows of slots of the call's own, told by their blocks. -/
def Tb (b : Nat) (W : World) (g1 g2 c1 c2 n1 n2 : Nat) (l1 l2 : List S79) : Prop :=
 Kd.R k79 79 W b (fun k => k = g1) (.slice (some ⟨g1, 0, none⟩) n1 c1) l1 ∧ Kd.R k79 79 W b (fun k => k = g2) (.slice (some ⟨g2, 0, none⟩) n2 c2) l2 ∧ g1 ≠ g2 ∧ b ≤ g1 ∧ b ≤ g2 ∧ g1 < W.heap.size ∧ g2 < W.heap.size
theorem setCell_size (W : World) (p : Addr) (v : Value) : (W.setCell p v).heap.size = W.heap.size := by simp [World.setCell]
theorem Tb.below {b : Nat} {W W' : World} {g1 g2 c1 c2 n1 n2 : Nat} {l1 l2 : List S79} (h : Tb b W g1 g2 c1 c2 n1 n2 l1 l2) (hb : Below W.heap.size W W') : Tb b W' g1 g2 c1 c2 n1 n2 l1 l2 :=
 ⟨Kd.R_below h.1 hb, Kd.R_below h.2.1 hb, h.2.2.1, h.2.2.2.1, h.2.2.2.2.1, Nat.lt_of_lt_of_le h.2.2.2.2.2.1 hb.size, Nat.lt_of_lt_of_le h.2.2.2.2.2.2 hb.size⟩
theorem Tb.far {b : Nat} {W : World} {g1 g2 c1 c2 n1 n2 : Nat} {l1 l2 : List S79} (h : Tb b W g1 g2 c1 c2 n1 n2 l1 l2) (p : Addr) (v : Value) (h1 : g1 ≠ p.block) (h2 : g2 ≠ p.block) : Tb b (W.setCell p v) g1 g2 c1 c2 n1 n2 l1 l2 :=
 ⟨Kd.R_far h.1 (fun k hk => by rw [hk]; exact h1) v, Kd.R_far h.2.1 (fun k hk => by rw [hk]; exact h2) v, h.2.2.1, h.2.2.2.1, h.2.2.2.2.1, by rw [setCell_size]; exact h.2.2.2.2.2.1, by rw [setCell_size]; exact h.2.2.2.2.2.2⟩
/-- A slot's three cells. -/
def set3 (W : World) (g j : Nat) (x : S79) : World := ((W.setCell ⟨g, j, none⟩ (.bool x.f0)).setCell ⟨g, j + 1, none⟩ (.int .i64 x.f1)).setCell ⟨g, j + 2, none⟩ (.int .i64 x.f2)
theorem row_set3 {b : Nat} {W : World} {g c n : Nat} {l : List S79} (h : Kd.R k79 79 W b (fun k => k = g) (.slice (some ⟨g, 0, none⟩) n c) l) (i : Int) (h0 : 0 ≤ i) (h1 : i < (n : Int)) (x : S79) :
  Kd.R k79 79 (set3 W g (i.toNat * 3) x) b (fun k => k = g) (.slice (some ⟨g, 0, none⟩) n c) (l.set i.toNat x) := by
 obtain ⟨ce, hcl, hM, hcc, hfr⟩ := Kd.R_elem h z79 i h0 h1
 obtain rfl := k79_openM hM
 exact (Kd.R_seg h i h0 h1 (seg := [.bool x.f0, .int .i64 x.f1, .int .i64 x.f2]) (j := 0) hcl hcc (show 3 ≤ 3 from by decide) (x' := x) (k79_mkM _ _ _ x) (fun _ hk => hk)).1
theorem Tb.put1 {b : Nat} {W : World} {g1 g2 c1 c2 n1 n2 : Nat} {l1 l2 : List S79} (h : Tb b W g1 g2 c1 c2 n1 n2 l1 l2) (i : Int) (h0 : 0 ≤ i) (h1 : i < (n1 : Int)) (x : S79) : Tb b (set3 W g1 (i.toNat * 3) x) g1 g2 c1 c2 n1 n2 (l1.set i.toNat x) l2 :=
 ⟨row_set3 h.1 i h0 h1 x, Kd.R_far (Kd.R_far (Kd.R_far h.2.1 (fun k hk => by rw [hk]; exact h.2.2.1.symm) _) (fun k hk => by rw [hk]; exact h.2.2.1.symm) _) (fun k hk => by rw [hk]; exact h.2.2.1.symm) _, h.2.2.1, h.2.2.2.1, h.2.2.2.2.1, by unfold set3; simp only [setCell_size]; exact h.2.2.2.2.2.1, by unfold set3; simp only [setCell_size]; exact h.2.2.2.2.2.2⟩
theorem Tb.put2 {b : Nat} {W : World} {g1 g2 c1 c2 n1 n2 : Nat} {l1 l2 : List S79} (h : Tb b W g1 g2 c1 c2 n1 n2 l1 l2) (i : Int) (h0 : 0 ≤ i) (h1 : i < (n2 : Int)) (x : S79) : Tb b (set3 W g2 (i.toNat * 3) x) g1 g2 c1 c2 n1 n2 l1 (l2.set i.toNat x) :=
 ⟨Kd.R_far (Kd.R_far (Kd.R_far h.1 (fun k hk => by rw [hk]; exact h.2.2.1) _) (fun k hk => by rw [hk]; exact h.2.2.1) _) (fun k hk => by rw [hk]; exact h.2.2.1) _, row_set3 h.2.1 i h0 h1 x, h.2.2.1, h.2.2.2.1, h.2.2.2.2.1, by unfold set3; simp only [setCell_size]; exact h.2.2.2.2.2.1, by unfold set3; simp only [setCell_size]; exact h.2.2.2.2.2.2⟩
/-- A slot, laid open. -/
theorem row_open {b : Nat} {W : World} {ok : Nat → Prop} {g c n : Nat} {l : List S79} (h : Kd.R k79 79 W b ok (.slice (some ⟨g, 0, none⟩) n c) l) (i : Int) (h0 : 0 ≤ i) (h1 : i < (n : Int)) :
  (W.cell? ⟨g, i.toNat * 3, none⟩ = some (.bool (rd_T79 l i).f0) ∧ W.cell? ⟨g, i.toNat * 3 + 1, none⟩ = some (.int .i64 (rd_T79 l i).f1) ∧ W.cell? ⟨g, i.toNat * 3 + 2, none⟩ = some (.int .i64 (rd_T79 l i).f2)) ∧
  W.frozen? ⟨g, i.toNat * 3, none⟩ = false ∧ W.frozen? ⟨g, i.toNat * 3 + 1, none⟩ = false ∧ W.frozen? ⟨g, i.toNat * 3 + 2, none⟩ = false := by
 obtain ⟨ce, hcl, hM, hcc, hfr⟩ := Kd.R_elem h z79 i h0 h1
 obtain rfl := k79_openM hM
 exact ⟨⟨hcc 0 _ rfl, hcc 1 _ rfl, hcc 2 _ rfl⟩, hfr 0, hfr 1, hfr 2⟩
theorem blk_set3 {W : World} {g a j : Nat} {t : TypeId} {cs : Array Value} (h : W.heap[a]? = some (.cells cs t (0, 0))) (hn : a ≠ g) (x : S79) : (set3 W g j x).heap[a]? = some (.cells cs t (0, 0)) :=
 blk_far (blk_far (blk_far h hn _) hn _) hn _
theorem below_set3 {w W : World} {g j : Nat} {x : S79} (h : Below w.heap.size w W) (hg : w.heap.size ≤ g) : Below w.heap.size w (set3 W g j x) := below_set (below_set (below_set h hg) hg) hg
/-- The rows that a copy of a table made. -/
theorem Tb.of {b : Nat} {W : World} {v1 v2 : Value} {l1 l2 : List S79} (h1 : Kd.R k79 79 W b (fun k_ => some k_ ≠ (v2 : Value).ownBlock) v1 l1) (h2 : Kd.R k79 79 W b (fun k_ => some k_ ≠ (v1 : Value).ownBlock) v2 l2) (p1 : 0 < l1.length) (p2 : 0 < l2.length) :
  ∃ g1 g2 c1 c2, v1 = .slice (some ⟨g1, 0, none⟩) l1.length c1 ∧ v2 = .slice (some ⟨g2, 0, none⟩) l2.length c2 ∧ Tb b W g1 g2 c1 c2 l1.length l2.length l1 l2 := by
 obtain ⟨g1, c1, rfl, hb1, hl1, _⟩ := Kd.R_form h1 p1
 obtain ⟨g2, c2, rfl, hb2, hl2, _⟩ := Kd.R_form h2 p2
 have hne : g1 ≠ g2 := fun e => h1.1 g1 rfl (by rw [e]; rfl)
 refine ⟨g1, g2, c1, c2, rfl, rfl, Kd.R_mono (Kd.R_tight rfl h1) (fun k hk => ?_), Kd.R_mono (Kd.R_tight rfl h2) (fun k hk => ?_), hne, hb1, hb2, hl1, hl2⟩
 ·simpa [Value.ownBlock] using hk
 ·simpa [Value.ownBlock] using hk
/-- .. and as they are handed back. -/
theorem Tb.back {b : Nat} {W : World} {g1 g2 c1 c2 n1 n2 : Nat} {l1 l2 : List S79} (h : Tb b W g1 g2 c1 c2 n1 n2 l1 l2) :
  Kd.R k79 79 W b (fun k_ => some k_ ≠ (.slice (some ⟨g2, 0, none⟩) n2 c2 : Value).ownBlock) (.slice (some ⟨g1, 0, none⟩) n1 c1) l1 ∧ Kd.R k79 79 W b (fun k_ => some k_ ≠ (.slice (some ⟨g1, 0, none⟩) n1 c1 : Value).ownBlock) (.slice (some ⟨g2, 0, none⟩) n2 c2) l2 :=
 ⟨Kd.R_mono h.1 (fun k hk => by rw [hk]; simpa [Value.ownBlock] using h.2.2.1), Kd.R_mono h.2.1 (fun k hk => by rw [hk]; simpa [Value.ownBlock] using h.2.2.1.symm)⟩
theorem impl_Table_find.range {a0 : Int} {l1 l2 : List S79} {a1 s i : Int} (h : impl_Table_find.f a0 l1 l2 a1 = some (s, i)) : 0 < l1.length ∧ 0 < l2.length ∧ ((s = 1 ∧ 0 ≤ i ∧ i < (l1.length : Int)) ∨ (s = 2 ∧ 0 ≤ i ∧ i < (l2.length : Int)) ∨ (s = 0 ∧ i = 0)) := by
 obtain ⟨⟨p, q⟩, hp, h⟩ := Option.bind_eq_some_iff.mp h
 by_cases hin : (0 ≤ p ∧ p < (l1.length : Int)) ∧ 0 ≤ q ∧ q < (l2.length : Int)
 ·simp only [if_pos hin] at h
  refine ⟨by omega, by omega, ?_⟩
  split at h
  ·simp only [Option.some.injEq, Prod.mk.injEq] at h
   omega
  ·split at h
   ·simp only [Option.some.injEq, Prod.mk.injEq] at h
    omega
   ·simp only [Option.some.injEq, Prod.mk.injEq] at h
    omega
 ·simp only [if_neg hin] at h
  cases h

/-! ### impl_Slot: function 87 -/
def impl_Slot.f (l0 : List (S79)) : Option ((List (S79))) := (some (([] : List (S79)) : List (S79))).bind fun y223 => (if y223.length + l0.length < 5864062014805 then (some (y223 ++ l0)) else (none))
set_option maxHeartbeats 8000000 in
set_option maxRecDepth 100000 in
theorem impl_Slot.calls (A0 : Option Addr) (c0 : Nat) (l0 : List (S79)) (r : List (S79)) (w : World) (hr0 : Kd.C k79 w A0 l0.length l0) (hc0 : l0.length ≤ c0) (h : impl_Slot.f l0 = some r) :
  Calls Try.prog 87 #[.slice A0 l0.length c0] w fun e w' => ∃ v0_ : Value, e = .returned (v0_) ∧ Kd.R k79 79 w' w.heap.size (fun _ => True) v0_ r ∧ Below w.heap.size w w' := by
 rcases A0 with _ | ad
 ·have hty := Try.underlying23
  have e0 : l0 = [] := by
   rcases l0 with _ | ⟨x, t⟩
   ·rfl
   ·obtain ⟨_, e_, _⟩ := hr0.2.2 (by simp)
    cases e_
  subst e0
  have er : r = [] := by
   unfold impl_Slot.f at h
   simpa using h.symm
  subst er
  have heql : ∀ (W : World) (n c : Nat), (Go.binOp .eql 23 (.slice none n c) (.slice none 0 0)).run Try.prog W = .ok (.bool true) W := fun W n c => by first | exact Lib.run_eql_slice_nil W 23 79 none n c 0 0 Try.underlying23 | exact Lib.run_eql_slice_nil W _ _ none n c (by assumption)
  clear h hr0 hc0 hty
  go_enter Try.func87, Try.ntmps87
  go_wp2
  go_ret
  exact ⟨_, rfl, Kd.R_nil _ _ _ _ _, Below.refl _ _⟩
 have hty := Try.underlying23
 have heql : ∀ (W : World) (n c : Nat), (Go.binOp .eql 23 (.slice (some ad) n c) (.slice none 0 0)).run Try.prog W = .ok (.bool false) W := fun W n c => by first | exact Lib.run_eql_slice_nil W 23 79 (some ad) n c 0 0 Try.underlying23 | exact Lib.run_eql_slice_nil W _ _ (some ad) n c (by assumption)
 clear hty
 have HR0 := Aside0.mk hr0
 have HC0 := Aside0.mk hc0
 clear hr0 hc0
 have HB := Aside0.mk (Below.refl w.heap.size w)
 have H : ((some (([] : List (S79)) : List (S79))).bind fun y223 => (if y223.length + l0.length < 5864062014805 then (some (y223 ++ l0)) else (none))) = some r := h
 clear h
 obtain ⟨y223, hy223⟩ : ∃ y_ : List (S79), y_ = (([] : List (S79))) := ⟨_, rfl⟩
 replace H : (if y223.length + l0.length < 5864062014805 then (some (y223 ++ l0)) else (none)) = some r := by first | (rw [hy223]; with_reducible exact H) | (have H2_ := (Option.bind_some _ _).symm.trans H; rw [hy223]; with_reducible exact H2_) | (have H2_ := (Option.bind_some _ _).symm.trans H; with_reducible exact H2_) | with_reducible exact H | (rw [hy223]; exact H) | exact H
 have Ny223 := Aside0.mk hy223
 clear hy223
 by_cases c2 : y223.length + l0.length < 5864062014805
 ·rw [if_pos c2] at H
  have LMc2 := Aside0.mk c2
  clear c2
  obtain ⟨y226, hy226⟩ : ∃ y_ : List (S79), y_ = (y223 ++ l0) := ⟨_, rfl⟩
  replace H : (some y226) = some r := by first | (rw [hy226]; with_reducible exact H) | (have H2_ := (Option.bind_some _ _).symm.trans H; rw [hy226]; with_reducible exact H2_) | (have H2_ := (Option.bind_some _ _).symm.trans H; with_reducible exact H2_) | with_reducible exact H | (rw [hy226]; exact H) | exact H
  have Ny226 := Aside0.mk hy226
  clear hy226
  obtain rfl := Option.some.inj H
  go_enter Try.func87, Try.ntmps87
  go_wp2_with (first | ((with_reducible refine gate_dst (N := 5) rfl ?_); refine Kd.R_lit k79 _ 79 ?hg (N := 5) ?hd (xs := ([] : List (S79))) (inner := []) (ok := fun _ => True) (okp := fun _ => True) ?hr ?hp (fun _ hk => hk) trivial (Below.refl _ _) (Nat.le_refl _) (by simp) ?_; (case hd => rfl); (case hg => rfl); (case hr => first | (go_simp; done) | (go_simp; rfl)); (case hp => exact (Reps.none _ _)); intro v224 w3 ho4 hb hg_ hnew_; clear hg_ hnew_; (first | rw [← Ny223.out] at ho4 | (simp only [Int.reduceToNat] at ho4; rw [← Ny223.out] at ho4)); have HO225 := Aside0.mk (Kd.R_lower ho4 (below_size (bB HB))); replace HB := Aside0.mk (below_step (bB HB) hb); clear hb ho4) | ((with_reducible refine gate_builtin (b := .append) (xs := #[.tmp 5, .tmp 6]) rfl ?_); at_builtin; refine Kd.R_append_rows k79 (w0 := w) w.heap.size rfl (.tmp 5) (.tmp 6) 23 79 (.agg #[(.bool false), (.int .i64 0), (.int .i64 0)]) 24 rfl Try.underlying23 info79 rfl (by decide) (by omega) v224 y223 l0 _ _ _ (fun _ => True) (fun _ => False) rfl rfl ?aO ?aR (fun _ _ h => h) (fun _ h => h.elim) ?aF ?aB ?aS ?aL ?_; (case aR => repeat (first | exact (Kd.C_below HR0.out HB.out) | (with_reducible refine Kd.C_alloc ?_ _) | (with_reducible refine Kd.C_drewN ?_ _) | (with_reducible refine Kd.C_drew ?_))); (case aB => exact (bB HB)); (case aF => exact (fun _ _ => trivial)); (case aO => exact (aR HO225)); (case aS => exact (below_size (bB HB))); (case aL => have := LMc2.out; omega); intro v227 w5 ho hb hg hat; rw [← Ny226.out] at ho; replace HB := Aside0.mk (hb); have HO228 := Aside0.mk (ho); clear HO225; clear ho hb hg hat))
  go_ret
  exact ⟨_, by first | rfl | (simp [errW_none, errW_some] <;> rfl) | (simp [*, errW_none, errW_some] <;> rfl), by (with_reducible repeat (first | apply Kd.R_alloc | apply Kd.R_drewN | apply Kd.R_drew)); exact HO228.out, bB HB⟩
 ·rw [if_neg c2] at H
  exact absurd H (by simp)

/-! ### impl_ownTable: function 80 -/
def impl_ownTable.f (a0_0 : Int) (l0_1 : List (S79)) (l0_2 : List (S79)) (a0_3 : Int) : Option (Int × (List (S79)) × (List (S79)) × Int) := (impl_Slot.f l0_1).bind fun t231 => ((impl_Slot.f l0_2).bind fun t234 => (some (a0_0, t231, t234, a0_3)))
def impl_ownTable.T1 : Bool × List (List Nat × List Nat) := (true, [([], []), ([0], [0]), ([], []), ([2], [2]), ([3], [3]), ([], []), ([5], [5]), ([6, 4], [6]), ([], []), ([8], [8]), ([1, 4, 7, 9], [1, 4, 7, 9]), ([10, 7, 0, 1, 2, 3, 4, 5, 6, 7, 8, 9, 10], [10])])
def impl_ownTable.B1 : List Nat := [0, 1, 0, 4, 12, 0, 32, 124, 0, 256, 1023, 2047]
theorem impl_ownTable.tab1 : rtab .any (opsOf Try.f80 1) = impl_ownTable.T1 := by kernel_rfl
theorem impl_ownTable.bits1 : waitsOk impl_ownTable.T1.2 impl_ownTable.B1 = true := by kernel_rfl
set_option maxHeartbeats 8000000 in
set_option maxRecDepth 100000 in
theorem impl_ownTable.calls (a0_0 : Int) (A0_1 : Option Addr) (c0_1 : Nat) (l0_1 : List (S79)) (A0_2 : Option Addr) (c0_2 : Nat) (l0_2 : List (S79)) (a0_3 : Int) (r1 : Int) (r2 : List (S79)) (r3 : List (S79)) (r4 : Int) (w : World) (hr0_1 : Kd.C k79 w A0_1 l0_1.length l0_1) (hc0_1 : l0_1.length ≤ c0_1) (hr0_2 : Kd.C k79 w A0_2 l0_2.length l0_2) (hc0_2 : l0_2.length ≤ c0_2) (h : impl_ownTable.f a0_0 l0_1 l0_2 a0_3 = some (r1, r2, r3, r4)) :
  Calls Try.prog 80 #[.agg #[.int .i64 a0_0, .slice A0_1 l0_1.length c0_1, .slice A0_2 l0_2.length c0_2, .int .i64 a0_3]] w fun e w' => ∃ v1_ v2_ : Value, e = .returned (.agg #[.int .i64 r1, v1_, v2_, .int .i64 r4]) ∧ Kd.R k79 79 w' w.heap.size (fun k_ => some k_ ≠ (v2_ : Value).ownBlock) v1_ r2 ∧ Kd.R k79 79 w' w.heap.size (fun k_ => some k_ ≠ (v1_ : Value).ownBlock) v2_ r3 ∧ Below w.heap.size w w' := by
 have hu25 := Try.underlying25
 have HR0_1 := Aside0.mk hr0_1
 have HC0_1 := Aside0.mk hc0_1
 clear hr0_1 hc0_1
 have HR0_2 := Aside0.mk hr0_2
 have HC0_2 := Aside0.mk hc0_2
 clear hr0_2 hc0_2
 have HB := Aside0.mk (Below.refl w.heap.size w)
 have H : ((impl_Slot.f l0_1).bind fun t231 => ((impl_Slot.f l0_2).bind fun t234 => (some (a0_0, t231, t234, a0_3)))) = some (r1, r2, r3, r4) := h
 clear h
 replace H := Option.bind_eq_some_iff.mp H
 obtain ⟨t231, A20, H⟩ := H
 replace H : ((impl_Slot.f l0_2).bind fun t234 => (some (a0_0, t231, t234, a0_3))) = some (r1, r2, r3, r4) := H
 have A2 := Aside0.mk A20
 clear A20
 replace H := Option.bind_eq_some_iff.mp H
 obtain ⟨t234, A30, H⟩ := H
 replace H : (some (a0_0, t231, t234, a0_3)) = some (r1, r2, r3, r4) := H
 have A3 := Aside0.mk A30
 clear A30
 simp only [Option.some.injEq, Prod.mk.injEq] at H
 obtain ⟨rfl, rfl, rfl, rfl⟩ := H
 go_enter Try.func80, Try.ntmps80
 try go_wp2_with (first | ((with_reducible refine gate_dst (N := 1) rfl ?_); refine box_event ?hg (N := 1) ?hd (cs := #[.int .i64 a0_0, .slice A0_1 l0_1.length c0_1, .slice A0_2 l0_2.length c0_2, .int .i64 a0_3]) (t := 25) ?hr ?_; (case hd => rfl); (case hg => rfl); (case hr => first | (go_simp; done) | (go_simp; rfl)); intro gb229 hg w4 hbox hb; have BK229 := Aside0.mk (hbox); have GW229 := Aside0.mk ((by rw [hg]; exact (below_size (bB HB)) : w.heap.size ≤ gb229)); have GE229 := Aside0.mk ((by rw [hg]; exact (below_size (bB HB)) : w.heap.size ≤ gb229)); replace HB := Aside0.mk (below_step (bB HB) hb); clear hb hbox hg) | ((with_reducible refine gate_dst (N := 2) rfl ?_); refine box_event ?hg (N := 2) ?hd (cs := #[.int .i64 0, .slice none 0 0, .slice none 0 0, .int .i64 0]) (t := 25) ?hr ?_; (case hd => rfl); (case hg => rfl); (case hr => first | (go_simp; done) | (go_simp; rfl)); intro gb230 hg w5 hbox hb; have BK230 := Aside0.mk (hbox); have GW230 := Aside0.mk ((by rw [hg]; exact (below_size (bB HB)) : w.heap.size ≤ gb230)); have GE230 := Aside0.mk ((by rw [hg]; exact (below_size (bB HB)) : w.heap.size ≤ gb230)); replace HB := Aside0.mk (below_step (bB HB) hb); have NB229_230 := Aside0.mk ((by rw [hg]; exact Nat.ne_of_lt (blk_lt (g := gb229) (o := .cells #[.int .i64 a0_0, .slice A0_1 l0_1.length c0_1, .slice A0_2 l0_2.length c0_2, .int .i64 a0_3] 25 (0, 0)) (kB BK229)) : gb229 ≠ gb230)); have NB230_229 := Aside0.mk ((by rw [hg]; exact Nat.ne_of_gt (blk_lt (g := gb229) (o := .cells #[.int .i64 a0_0, .slice A0_1 l0_1.length c0_1, .slice A0_2 l0_2.length c0_2, .int .i64 a0_3] 25 (0, 0)) (kB BK229)) : gb230 ≠ gb229)); replace BK229 := Aside0.mk (blk_below (g := gb229) (o := .cells #[.int .i64 a0_0, .slice A0_1 l0_1.length c0_1, .slice A0_2 l0_2.length c0_2, .int .i64 a0_3] 25 (0, 0)) (kB BK229) hb); clear hb hbox hg))
 replace BK229 := Aside0.mk (blk_drew BK229.out)
 replace BK230 := Aside0.mk (blk_drew BK230.out)
 replace HB := Aside0.mk (below_drew1 HB.out)
 refine start_ (n := 12) (S := fun w' => w'.cell? ⟨gb229, 0, none⟩ = some (.int .i64 a0_0) ∧ w'.cell? ⟨gb229, 1, none⟩ = some (.slice A0_1 l0_1.length c0_1) ∧ w'.cell? ⟨gb229, 2, none⟩ = some (.slice A0_2 l0_2.length c0_2) ∧ w'.cell? ⟨gb229, 3, none⟩ = some (.int .i64 a0_3)) (ds := []) #[false, false, false, false, false, false, false, false, false, false, false, false] (by kernel_rfl) rfl rfl ⟨(blk_cell BK229.out 0).trans rfl, (blk_cell BK229.out 1).trans rfl, (blk_cell BK229.out 2).trans rfl, (blk_cell BK229.out 3).trans rfl⟩ (fun hHeld => ?_); refine with_tabW impl_ownTable.tab1 impl_ownTable.bits1 (fun HT_ HW_ => ?_)
 generalize w5.drew = w6 at BK229 BK230 HB hHeld ⊢
 refine pure_ (i := 0) (N := some 3) (v := ?_) (a' := ?_) #[true, false, false, false, false, false, false, false, false, false, false, false] rfl rfl (any_of HT_.out (by kernel_rfl)) (fun _ _ _ h => h) (Or.inl ⟨by rfl, ?_⟩) ?_ ?_
 rotate_left
 ·intro w'
  go_simp
  with_reducible rfl
 rotate_left
 ·simp only [Act.put, List.setIfInBounds_toArray, List.set_cons_zero, List.set_cons_succ, i64_w, i32_w]
  rfl
 refine pure_ (i := 2) (N := some 5) (v := ?_) (a' := ?_) #[true, false, true, false, false, false, false, false, false, false, false, false] rfl rfl (any_of HT_.out (by kernel_rfl)) (fun _ _ _ h => h) (Or.inl ⟨by rfl, ?_⟩) ?_ ?_
 rotate_left
 ·intro w'
  go_simp
  with_reducible rfl
 rotate_left
 ·simp only [Act.put, List.setIfInBounds_toArray, List.set_cons_zero, List.set_cons_succ, i64_w, i32_w]
  rfl
 refine pure_ (i := 5) (N := some 8) (v := ?_) (a' := ?_) #[true, false, true, false, false, true, false, false, false, false, false, false] rfl rfl (any_of HT_.out (by kernel_rfl)) (fun _ _ _ h => h) (Or.inl ⟨by rfl, ?_⟩) ?_ ?_
 rotate_left
 ·intro w'
  go_simp
  with_reducible rfl
 rotate_left
 ·simp only [Act.put, List.setIfInBounds_toArray, List.set_cons_zero, List.set_cons_succ, i64_w, i32_w]
  rfl
 refine pure_ (i := 8) (N := some 11) (v := ?_) (a' := ?_) #[true, false, true, false, false, true, false, false, true, false, false, false] rfl rfl (any_of HT_.out (by kernel_rfl)) (fun _ _ _ h => h) (Or.inl ⟨by rfl, ?_⟩) ?_ ?_
 rotate_left
 ·intro w'
  go_simp
  with_reducible rfl
 rotate_left
 ·simp only [Act.put, List.setIfInBounds_toArray, List.set_cons_zero, List.set_cons_succ, i64_w, i32_w]
  rfl
 refine take_ (i := 1) (N := some 4) (v := ?_) (a' := ?_) #[true, true, true, false, false, true, false, false, true, false, false, false] rfl rfl (take_ofW HT_.out HW_.out (by kernel_rfl)) (fun _ _ _ h => h) (Or.inl ⟨by rfl, ?_⟩) hHeld ?_ ?_
 rotate_left
 ·rintro w' ⟨s0, s1, s2, s3⟩
  go_simp
  with_reducible rfl
 rotate_left
 ·simp only [Act.put, List.setIfInBounds_toArray, List.set_cons_zero, List.set_cons_succ, i64_w, i32_w]
  rfl
 refine take_ (i := 3) (N := some 6) (v := ?_) (a' := ?_) #[true, true, true, true, false, true, false, false, true, false, false, false] rfl rfl (take_ofW HT_.out HW_.out (by kernel_rfl)) (fun _ _ _ h => h) (Or.inl ⟨by rfl, ?_⟩) hHeld ?_ ?_
 rotate_left
 ·rintro w' ⟨s0, s1, s2, s3⟩
  go_simp
  with_reducible rfl
 rotate_left
 ·simp only [Act.put, List.setIfInBounds_toArray, List.set_cons_zero, List.set_cons_succ, i64_w, i32_w]
  rfl
 refine take_ (i := 6) (N := some 9) (v := ?_) (a' := ?_) #[true, true, true, true, false, true, true, false, true, false, false, false] rfl rfl (take_ofW HT_.out HW_.out (by kernel_rfl)) (fun _ _ _ h => h) (Or.inl ⟨by rfl, ?_⟩) hHeld ?_ ?_
 rotate_left
 ·rintro w' ⟨s0, s1, s2, s3⟩
  go_simp
  with_reducible rfl
 rotate_left
 ·simp only [Act.put, List.setIfInBounds_toArray, List.set_cons_zero, List.set_cons_succ, i64_w, i32_w]
  rfl
 refine take_ (i := 9) (N := some 12) (v := ?_) (a' := ?_) #[true, true, true, true, false, true, true, false, true, true, false, false] rfl rfl (take_ofW HT_.out HW_.out (by kernel_rfl)) (fun _ _ _ h => h) (Or.inl ⟨by rfl, ?_⟩) hHeld ?_ ?_
 rotate_left
 ·rintro w' ⟨s0, s1, s2, s3⟩
  go_simp
  with_reducible rfl
 rotate_left
 ·simp only [Act.put, List.setIfInBounds_toArray, List.set_cons_zero, List.set_cons_succ, i64_w, i32_w]
  rfl
 refine one_ (i := 4) (N := some 7) #[true, true, true, true, true, true, true, false, true, true, false, false] rfl rfl (one_of HT_.out (by kernel_rfl)) (by decide) (fun K hK => ?_)
 refine goes_ Try.func87 (by kernel_rfl) rfl #[.slice A0_1 l0_1.length c0_1] (by rfl) rfl rfl (by (try simp only [List.map_toArray, List.map_cons, List.map_nil]); first | done | rfl | (simp only [List.length_drop, List.length_take]; rfl)) ?_
 with_reducible refine (impl_Slot.calls _ _ l0_1 t231 _ ?side1 ?side2 A2.out).mono ?_
 (case side1 => repeat (first | exact (Kd.C_below HR0_1.out HB.out) | (with_reducible refine Kd.C_alloc ?_ _) | (with_reducible refine Kd.C_drewN ?_ _) | (with_reducible refine Kd.C_drew ?_)))
 (case side2 => exact HC0_1.out)
 rintro e w7 ⟨v232, rfl, ho0, hb⟩
 refine ⟨_, rfl, ?_⟩
 have HO233 := Aside0.mk (Kd.R_lower ho0 (below_size (bB HB)))
 replace BK229 := Aside0.mk (blk_below (g := gb229) (o := .cells #[.int .i64 a0_0, .slice A0_1 l0_1.length c0_1, .slice A0_2 l0_2.length c0_2, .int .i64 a0_3] 25 (0, 0)) (kB BK229) hb)
 replace BK230 := Aside0.mk (blk_below (g := gb230) (o := .cells #[.int .i64 0, .slice none 0 0, .slice none 0 0, .int .i64 0] 25 (0, 0)) (kB BK230) hb)
 replace HB := Aside0.mk (below_step (bB HB) hb)
 (try clear hb);(try clear hb2);(try clear hk);(try clear hi);(try clear ho0)
 refine hK.out _ _ ⟨(blk_cell BK229.out 0).trans rfl, (blk_cell BK229.out 1).trans rfl, (blk_cell BK229.out 2).trans rfl, (blk_cell BK229.out 3).trans rfl⟩ (fun hHeld => ?_)
 clear hK K
 refine norm_ (a' := ?_) ?_ ?_
 rotate_left
 ·show Act.put _ (some 7) _ = _
  simp only [Act.put, List.setIfInBounds_toArray, List.set_cons_zero, List.set_cons_succ, i64_w, i32_w]
  rfl
 refine one_ (i := 7) (N := some 10) #[true, true, true, true, true, true, true, true, true, true, false, false] rfl rfl (one_of HT_.out (by kernel_rfl)) (by decide) (fun K hK => ?_)
 refine goes_ Try.func87 (by kernel_rfl) rfl #[.slice A0_2 l0_2.length c0_2] (by rfl) rfl rfl (by (try simp only [List.map_toArray, List.map_cons, List.map_nil]); first | done | rfl | (simp only [List.length_drop, List.length_take]; rfl)) ?_
 with_reducible refine (impl_Slot.calls _ _ l0_2 t234 _ ?side1 ?side2 A3.out).mono ?_
 (case side1 => repeat (first | exact (Kd.C_below HR0_2.out HB.out) | (with_reducible refine Kd.C_alloc ?_ _) | (with_reducible refine Kd.C_drewN ?_ _) | (with_reducible refine Kd.C_drew ?_)))
 (case side2 => exact HC0_2.out)
 rintro e w8 ⟨v235, rfl, ho0, hb⟩
 refine ⟨_, rfl, ?_⟩
 have HO236 := Aside0.mk (Kd.R_lower (Kd.R_new' ho0 (Kd.R_lt (aR HO233))) (below_size (bB HB)))
 replace HO233 := Aside0.mk (Kd.R_elder' (aR HO233) (Kd.R_base ho0) hb)
 replace BK229 := Aside0.mk (blk_below (g := gb229) (o := .cells #[.int .i64 a0_0, .slice A0_1 l0_1.length c0_1, .slice A0_2 l0_2.length c0_2, .int .i64 a0_3] 25 (0, 0)) (kB BK229) hb)
 replace BK230 := Aside0.mk (blk_below (g := gb230) (o := .cells #[.int .i64 0, .slice none 0 0, .slice none 0 0, .int .i64 0] 25 (0, 0)) (kB BK230) hb)
 replace HB := Aside0.mk (below_step (bB HB) hb)
 (try clear hb);(try clear hb2);(try clear hk);(try clear hi);(try clear ho0)
 obtain ⟨Ao9, co9, eo9⟩ := Kd.R_slice HO236.out
 (first | subst eo9 | (injection eo9 with f1_ f2_ f3_; have f4_ := f1_.symm; have f5_ := f3_.symm; clear f1_ f2_ f3_; subst f4_; subst f5_))
 obtain ⟨Ao10, co10, eo10⟩ := Kd.R_slice HO233.out
 (first | subst eo10 | (injection eo10 with f1_ f2_ f3_; have f4_ := f1_.symm; have f5_ := f3_.symm; clear f1_ f2_ f3_; subst f4_; subst f5_))
 refine hK.out _ _ ⟨(blk_cell BK229.out 0).trans rfl, (blk_cell BK229.out 1).trans rfl, (blk_cell BK229.out 2).trans rfl, (blk_cell BK229.out 3).trans rfl⟩ (fun hHeld => ?_)
 clear hK K
 refine norm_ (a' := ?_) ?_ ?_
 rotate_left
 ·show Act.put _ (some 10) _ = _
  simp only [Act.put, List.setIfInBounds_toArray, List.set_cons_zero, List.set_cons_succ, i64_w, i32_w]
  rfl
 refine pure_ (i := 10) (N := some 13) (v := ?_) (a' := ?_) #[true, true, true, true, true, true, true, true, true, true, true, false] rfl rfl (any_of HT_.out (by kernel_rfl)) (fun _ _ _ h => h) (Or.inl ⟨by rfl, ?_⟩) ?_ ?_
 rotate_left
 ·intro w'
  go_simp
  with_reducible rfl
 rotate_left
 ·simp only [Act.put, List.setIfInBounds_toArray, List.set_cons_zero, List.set_cons_succ, i64_w, i32_w]
  rfl
 refine one_ (i := 11) (N := none) #[true, true, true, true, true, true, true, true, true, true, true, true] rfl rfl (one_of HT_.out (by kernel_rfl)) (by decide) (fun K hK => ?_)
 have hs11 : w8.cell? ⟨gb230, 0, none⟩ = some (.int .i64 0) := (blk_cell BK230.out 0).trans rfl
 have hfs11 := blk_frozen BK230.out 0
 have hns11_0 := NB229_230.out
 have hms11_0 := NB230_229.out
 have hs12 : w8.cell? ⟨gb230, 1, none⟩ = some (.slice none 0 0) := (blk_cell BK230.out 1).trans rfl
 have hfs12 := blk_frozen BK230.out 1
 have hns12_0 := NB229_230.out
 have hms12_0 := NB230_229.out
 have hs13 : w8.cell? ⟨gb230, 2, none⟩ = some (.slice none 0 0) := (blk_cell BK230.out 2).trans rfl
 have hfs13 := blk_frozen BK230.out 2
 have hns13_0 := NB229_230.out
 have hms13_0 := NB230_229.out
 have hs14 : w8.cell? ⟨gb230, 3, none⟩ = some (.int .i64 0) := (blk_cell BK230.out 3).trans rfl
 have hfs14 := blk_frozen BK230.out 3
 have hns14_0 := NB229_230.out
 have hms14_0 := NB230_229.out
 refine skip_ (w1 := ?_) (by rfl) rfl ?_ ?_
 rotate_left
 ·go_simp
  rfl
 refine hK.out _ _ ⟨((cell_far (p := ⟨gb230, _, none⟩) NB229_230.out _).trans (((cell_far (p := ⟨gb230, _, none⟩) NB229_230.out _).trans (((cell_far (p := ⟨gb230, _, none⟩) NB229_230.out _).trans (((cell_far (p := ⟨gb230, _, none⟩) NB229_230.out _).trans (hHeld.1)))))))), ((cell_far (p := ⟨gb230, _, none⟩) NB229_230.out _).trans (((cell_far (p := ⟨gb230, _, none⟩) NB229_230.out _).trans (((cell_far (p := ⟨gb230, _, none⟩) NB229_230.out _).trans (((cell_far (p := ⟨gb230, _, none⟩) NB229_230.out _).trans (hHeld.2.1)))))))), ((cell_far (p := ⟨gb230, _, none⟩) NB229_230.out _).trans (((cell_far (p := ⟨gb230, _, none⟩) NB229_230.out _).trans (((cell_far (p := ⟨gb230, _, none⟩) NB229_230.out _).trans (((cell_far (p := ⟨gb230, _, none⟩) NB229_230.out _).trans (hHeld.2.2.1)))))))), ((cell_far (p := ⟨gb230, _, none⟩) NB229_230.out _).trans (((cell_far (p := ⟨gb230, _, none⟩) NB229_230.out _).trans (((cell_far (p := ⟨gb230, _, none⟩) NB229_230.out _).trans (((cell_far (p := ⟨gb230, _, none⟩) NB229_230.out _).trans (hHeld.2.2.2))))))))⟩ (fun hHeld => ?_)
 clear hK K
 refine done_ (done_of HT_.out (by kernel_rfl)) ?_
 try go_wp2
 refine bodyPost_ret (results_cell_row rfl _ _ gb230 25 #[.int .i64 a0_0, .slice Ao10 t231.length co10, .slice Ao9 t234.length co9, .int .i64 a0_3] (0, 0) _ rfl (by (with_reducible repeat (first | refine blk_drewN ?_ _ | refine blk_drew ?_ | refine blk_alloc ?_ _)); refine blk_put (cs := #[.int .i64 a0_0, .slice Ao10 t231.length co10, .slice Ao9 t234.length co9, .int .i64 0]) ?_ 3 _ rfl; (with_reducible repeat (first | refine blk_drewN ?_ _ | refine blk_drew ?_ | refine blk_alloc ?_ _)); refine blk_put (cs := #[.int .i64 a0_0, .slice Ao10 t231.length co10, .slice none 0 0, .int .i64 0]) ?_ 2 _ rfl; (with_reducible repeat (first | refine blk_drewN ?_ _ | refine blk_drew ?_ | refine blk_alloc ?_ _)); refine blk_put (cs := #[.int .i64 a0_0, .slice none 0 0, .slice none 0 0, .int .i64 0]) ?_ 1 _ rfl; (with_reducible repeat (first | refine blk_drewN ?_ _ | refine blk_drew ?_ | refine blk_alloc ?_ _)); refine blk_put (cs := #[.int .i64 0, .slice none 0 0, .slice none 0 0, .int .i64 0]) ?_ 0 _ rfl; (with_reducible repeat (first | refine blk_drewN ?_ _ | refine blk_drew ?_ | refine blk_alloc ?_ _)); exact BK230.out) Try.underlying25 rfl (by kernel_rfl)) rfl ?_
 exact ⟨_, _, by first | rfl | (simp [errW_none, errW_some] <;> rfl) | (simp [*, errW_none, errW_some] <;> rfl), by (with_reducible repeat (first | apply Kd.R_alloc | apply Kd.R_drewN | apply Kd.R_drew)); exact Kd.R_mono (Kd.R_far (p := ⟨gb230, 3, none⟩) (Kd.R_far (p := ⟨gb230, 2, none⟩) (Kd.R_far (p := ⟨gb230, 1, none⟩) (Kd.R_far (p := ⟨gb230, 0, none⟩) (Kd.R_types HO233.out BK230.out (by decide)) (fun _ hk => hk.2) (.int .i64 a0_0)) (fun _ hk => hk.2) (.slice Ao10 t231.length co10)) (fun _ hk => hk.2) (.slice Ao9 t234.length co9)) (fun _ hk => hk.2) (.int .i64 a0_3)) (fun _ hk => hk.1.2), by (with_reducible repeat (first | apply Kd.R_alloc | apply Kd.R_drewN | apply Kd.R_drew)); exact Kd.R_mono (Kd.R_far (p := ⟨gb230, 3, none⟩) (Kd.R_far (p := ⟨gb230, 2, none⟩) (Kd.R_far (p := ⟨gb230, 1, none⟩) (Kd.R_far (p := ⟨gb230, 0, none⟩) (Kd.R_types HO236.out BK230.out (by decide)) (fun _ hk => hk.2) (.int .i64 a0_0)) (fun _ hk => hk.2) (.slice Ao10 t231.length co10)) (fun _ hk => hk.2) (.slice Ao9 t234.length co9)) (fun _ hk => hk.2) (.int .i64 a0_3)) (fun _ hk => hk.1.2), bB HB⟩

/-! ### impl_put: function 55 -/
theorem row_setv {b : Nat} {W : World} {g c n : Nat} {l : List S79} (h : Kd.R k79 79 W b (fun k => k = g) (.slice (some ⟨g, 0, none⟩) n c) l) (i : Int) (h0 : 0 ≤ i) (h1 : i < (n : Int)) (v : Int) :
  Kd.R k79 79 (W.setCell ⟨g, i.toNat * 3 + 2, none⟩ (.int .i64 v)) b (fun k => k = g) (.slice (some ⟨g, 0, none⟩) n c) (l.set i.toNat ⟨(rd_T79 l i).f0, (rd_T79 l i).f1, v⟩) := by
 obtain ⟨ce, hcl, hM, hcc, hfr⟩ := Kd.R_elem h z79 i h0 h1
 obtain rfl := k79_openM hM
 exact (Kd.R_seg h i h0 h1 (seg := [.int .i64 v]) (j := 2) hcl hcc (show 3 ≤ 3 from by decide) (x' := ⟨(rd_T79 l i).f0, (rd_T79 l i).f1, v⟩) (k79_mkM _ _ _ (⟨(rd_T79 l i).f0, (rd_T79 l i).f1, v⟩ : S79)) (fun _ hk => hk)).1
theorem Tb.val1 {b : Nat} {W : World} {g1 g2 c1 c2 n1 n2 : Nat} {l1 l2 : List S79} (h : Tb b W g1 g2 c1 c2 n1 n2 l1 l2) (i : Int) (h0 : 0 ≤ i) (h1 : i < (n1 : Int)) (v : Int) : Tb b (W.setCell ⟨g1, i.toNat * 3 + 2, none⟩ (.int .i64 v)) g1 g2 c1 c2 n1 n2 (l1.set i.toNat ⟨(rd_T79 l1 i).f0, (rd_T79 l1 i).f1, v⟩) l2 :=
 ⟨row_setv h.1 i h0 h1 v, Kd.R_far h.2.1 (fun k hk => by rw [hk]; exact h.2.2.1.symm) _, h.2.2.1, h.2.2.2.1, h.2.2.2.2.1, by rw [setCell_size]; exact h.2.2.2.2.2.1, by rw [setCell_size]; exact h.2.2.2.2.2.2⟩
theorem Tb.val2 {b : Nat} {W : World} {g1 g2 c1 c2 n1 n2 : Nat} {l1 l2 : List S79} (h : Tb b W g1 g2 c1 c2 n1 n2 l1 l2) (i : Int) (h0 : 0 ≤ i) (h1 : i < (n2 : Int)) (v : Int) : Tb b (W.setCell ⟨g2, i.toNat * 3 + 2, none⟩ (.int .i64 v)) g1 g2 c1 c2 n1 n2 l1 (l2.set i.toNat ⟨(rd_T79 l2 i).f0, (rd_T79 l2 i).f1, v⟩) :=
 ⟨Kd.R_far h.1 (fun k hk => by rw [hk]; exact h.2.2.1) _, row_setv h.2.1 i h0 h1 v, h.2.2.1, h.2.2.2.1, h.2.2.2.2.1, by rw [setCell_size]; exact h.2.2.2.2.2.1, by rw [setCell_size]; exact h.2.2.2.2.2.2⟩
def impl_put.l0 : Nat → Int → Int → List S79 → List S79 → Bool → Int → Int → Int → Int → Option (Int × List S79 × List S79 × Int × Int × Bool)
 | 0, _, _, _, _, _, _, _, _, _ => none
 | k + 1, x, a0, l1, l2, b, ky, v, o1, o4 => if x ≤ 24 then ((impl_placesOf.f a0 ky).bind fun p => if (0 ≤ p.1 ∧ p.1 < (l1.length : Int)) ∧ 0 ≤ p.2 ∧ p.2 < (l2.length : Int) then (if Int.tmod x 2 = 1 then (if (rd_T79 l2 p.2).f0 = true then impl_put.l0 k (wrap64 (x + 1)) a0 l1 (l2.set p.2.toNat ⟨b, ky, v⟩) (rd_T79 l2 p.2).f0 (rd_T79 l2 p.2).f1 (rd_T79 l2 p.2).f2 o1 o4 else some (o1, l1, l2.set p.2.toNat ⟨b, ky, v⟩, wrap64 (o4 + 1), x, true))
   else (if (rd_T79 l1 p.1).f0 = true then impl_put.l0 k (wrap64 (x + 1)) a0 (l1.set p.1.toNat ⟨b, ky, v⟩) l2 (rd_T79 l1 p.1).f0 (rd_T79 l1 p.1).f1 (rd_T79 l1 p.1).f2 o1 o4 else some (o1, l1.set p.1.toNat ⟨b, ky, v⟩, l2, wrap64 (o4 + 1), x, true))) else none)
  else some (0, [], [], 0, 0, false)
def impl_put.f (k : Nat) (a0_0 : Int) (l0_1 l0_2 : List S79) (a0_3 a1 a2 : Int) : Option (Int × List S79 × List S79 × Int × Int × Bool) :=
 (impl_ownTable.f a0_0 l0_1 l0_2 a0_3).bind fun o => (impl_Table_find.f o.1 o.2.1 o.2.2.1 a1).bind fun p => if p.1 = 1 then some (o.1, o.2.1.set p.2.toNat ⟨(rd_T79 o.2.1 p.2).f0, (rd_T79 o.2.1 p.2).f1, a2⟩, o.2.2.1, o.2.2.2, 0, true) else if p.1 = 2 then some (o.1, o.2.1, o.2.2.1.set p.2.toNat ⟨(rd_T79 o.2.2.1 p.2).f0, (rd_T79 o.2.2.1 p.2).f1, a2⟩, o.2.2.2, 0, true) else impl_put.l0 k 0 a0_0 o.2.1 o.2.2.1 true a1 a2 o.1 o.2.2.2
theorem impl_put.mono_l : ∀ k x a0 l1 l2 b ky v o1 o4, LeO (impl_put.l0 k x a0 l1 l2 b ky v o1 o4) (impl_put.l0 (k + 1) x a0 l1 l2 b ky v o1 o4)
 | 0 => fun _ _ _ _ _ _ _ _ _ r h => by simp [impl_put.l0] at h
 | k + 1 => by
  intro x a0 l1 l2 b ky v o1 o4
  unfold impl_put.l0
  exact LeO.ite (LeO.bind (LeO.refl _) (fun _ => LeO.ite (LeO.ite (LeO.ite (impl_put.mono_l k _ _ _ _ _ _ _ _ _) (LeO.refl _)) (LeO.ite (impl_put.mono_l k _ _ _ _ _ _ _ _ _) (LeO.refl _))) (LeO.refl _))) (LeO.refl _)
theorem impl_put.mono : ∀ a0 a1 a2 a3 a4 a5 k, LeO (impl_put.f k a0 a1 a2 a3 a4 a5) (impl_put.f (k + 1) a0 a1 a2 a3 a4 a5) := by
 intro a0 a1 a2 a3 a4 a5 k
 unfold impl_put.f
 exact LeO.bind (LeO.refl _) (fun _ => LeO.bind (LeO.refl _) (fun _ => LeO.ite (LeO.refl _) (LeO.ite (LeO.refl _) (impl_put.mono_l k _ _ _ _ _ _ _ _ _))))
set_option maxHeartbeats 8000000 in
set_option maxRecDepth 100000 in
theorem impl_put.calls (k : Nat) (a0_0 : Int) (A0_1 : Option Addr) (c0_1 : Nat) (l0_1 : List (S79)) (A0_2 : Option Addr) (c0_2 : Nat) (l0_2 : List (S79)) (a0_3 : Int) (a1 : Int) (a2 : Int) (r1 : Int) (r2 : List (S79)) (r3 : List (S79)) (r4 : Int) (r5 : Int) (r6 : Bool) (w : World) (hr0_1 : Kd.C k79 w A0_1 l0_1.length l0_1) (hc0_1 : l0_1.length ≤ c0_1) (hr0_2 : Kd.C k79 w A0_2 l0_2.length l0_2) (hc0_2 : l0_2.length ≤ c0_2) (h : impl_put.f k a0_0 l0_1 l0_2 a0_3 a1 a2 = some (r1, r2, r3, r4, r5, r6)) :
  Calls Try.prog 55 #[.agg #[.int .i64 a0_0, .slice A0_1 l0_1.length c0_1, .slice A0_2 l0_2.length c0_2, .int .i64 a0_3], .int .i64 a1, .int .i64 a2] w fun e w' => ∃ v1_ v2_ : Value, e = .returned (.tuple #[.agg #[.int .i64 r1, v1_, v2_, .int .i64 r4], .int .i64 r5, .bool r6]) ∧ Kd.R k79 79 w' w.heap.size (fun k_ => some k_ ≠ (v2_ : Value).ownBlock) v1_ r2 ∧ Kd.R k79 79 w' w.heap.size (fun k_ => some k_ ≠ (v1_ : Value).ownBlock) v2_ r3 ∧ Below w.heap.size w w' := by
 have hu25 := Try.underlying25
 have hu79 := Try.underlying79
 have hr := Aside0.mk (And.intro hr0_1 (And.intro hc0_1 (And.intro hr0_2 hc0_2)))
 clear hr0_1 hc0_1 hr0_2 hc0_2
 obtain ⟨⟨o1, o2, o3, o4⟩, ho, h⟩ := Option.bind_eq_some_iff.mp h
 obtain ⟨⟨s, i⟩, hf, h⟩ := Option.bind_eq_some_iff.mp h
 have hO := Aside0.mk ho
 obtain ⟨p1, p2, hs⟩ := impl_Table_find.range hf
 have P1 := Aside0.mk p1
 have P2 := Aside0.mk p2
 clear ho p1 p2
 rcases hs with ⟨rfl, i0, i1⟩ | ⟨rfl, i0, i1⟩ | ⟨rfl, rfl⟩
 ·have hF := Aside0.mk hf
  clear hf
  have I0 := Aside0.mk i0
  have I1 := Aside0.mk i1
  clear i0 i1
  simp only [if_true, Option.some.injEq, Prod.mk.injEq] at h
  obtain ⟨rfl, rfl, rfl, rfl, rfl, rfl⟩ := h
  go_enter Try.func55, Try.ntmps55
  go_wp2_with (first | ((with_reducible refine gate_dst (N := 3) rfl ?_); refine box_event ?hg (N := 3) ?hd (cs := #[.int .i64 a0_0, .slice A0_1 l0_1.length c0_1, .slice A0_2 l0_2.length c0_2, .int .i64 a0_3]) (t := 25) ?hr ?_; (case hd => rfl); (case hg => rfl); (case hr => first | (go_simp; done) | (go_simp; rfl)); intro gt hg w1 hbox hb; have Ggt := Aside0.mk (show w.heap.size ≤ gt by rw [hg]; exact Nat.le_refl _); have HB := Aside0.mk hb; have Bgt := Aside0.mk hbox; clear hb hbox hg; (try clear hzgt_0); (try clear hzgt_1); (try clear hzgt_2); (try clear hzgt_3); (try clear hfgt_0); (try clear hfgt_1); (try clear hfgt_2); (try clear hfgt_3)) | ((with_reducible refine gate_dst (N := 6) rfl ?_); refine box_event ?hg (N := 6) ?hd (cs := #[.int .i64 0, .slice none 0 0, .slice none 0 0, .int .i64 0]) (t := 25) ?hr ?_; (case hd => rfl); (case hg => rfl); (case hr => first | (go_simp; done) | (go_simp; rfl)); intro gr hg w2 hbox hb; have Ggr := Aside0.mk (show w.heap.size ≤ gr by rw [hg]; exact HB.out.size); have Ngt_gr := Aside0.mk (show gt ≠ gr by rw [hg]; exact Nat.ne_of_lt (blk_lt Bgt.out)); have Ngr_gt := Aside0.mk (show gr ≠ gt by rw [hg]; exact Nat.ne_of_gt (blk_lt Bgt.out)); replace HB := Aside0.mk (below_step HB.out hb); replace Bgt := Aside0.mk (blk_below Bgt.out hb); have Bgr := Aside0.mk hbox; clear hb hbox hg; (try clear hzgt_0); (try clear hzgt_1); (try clear hzgt_2); (try clear hzgt_3); (try clear hfgt_0); (try clear hfgt_1); (try clear hfgt_2); (try clear hfgt_3); have hzgt_0 : w2.cell? ⟨gt, 0, none⟩ = some (.int .i64 a0_0) := (blk_cell Bgt.out 0).trans rfl; have hzgt_1 : w2.cell? ⟨gt, 1, none⟩ = some (.slice A0_1 l0_1.length c0_1) := (blk_cell Bgt.out 1).trans rfl; have hzgt_2 : w2.cell? ⟨gt, 2, none⟩ = some (.slice A0_2 l0_2.length c0_2) := (blk_cell Bgt.out 2).trans rfl; have hzgt_3 : w2.cell? ⟨gt, 3, none⟩ = some (.int .i64 a0_3) := (blk_cell Bgt.out 3).trans rfl; have hfgt_0 := blk_frozen Bgt.out 0; have hfgt_1 := blk_frozen Bgt.out 1; have hfgt_2 := blk_frozen Bgt.out 2; have hfgt_3 := blk_frozen Bgt.out 3; (try clear hzgr_0); (try clear hzgr_1); (try clear hzgr_2); (try clear hzgr_3); (try clear hfgr_0); (try clear hfgr_1); (try clear hfgr_2); (try clear hfgr_3)) | (go_at_call 80; refine (impl_ownTable.calls a0_0 A0_1 c0_1 l0_1 A0_2 c0_2 l0_2 a0_3 o1 o2 o3 o4 _ (Kd.C_below hr.out.1 HB.out) hr.out.2.1 (Kd.C_below hr.out.2.2.1 HB.out) hr.out.2.2.2 hO.out).mono ?_; rintro e w3 ⟨v1, v2, rfl, y1, y2, hb⟩; have hs_ := HB.out.size; replace y1 := Kd.R_lower y1 hs_; replace y2 := Kd.R_lower y2 hs_; clear hs_; obtain ⟨g1, g2, c1, c2, rfl, rfl, hT⟩ := Tb.of y1 y2 P1.out P2.out; have TT := Aside0.mk hT; have M1gt := Aside0.mk (show g1 ≠ gt from fun e_ => Kd.R_ne y1 (blk_below Bgt.out hb) (by decide) (by rw [← e_]; rfl)); have M2gt := Aside0.mk (show g2 ≠ gt from fun e_ => Kd.R_ne y2 (blk_below Bgt.out hb) (by decide) (by rw [← e_]; rfl)); have M1gr := Aside0.mk (show g1 ≠ gr from fun e_ => Kd.R_ne y1 (blk_below Bgr.out hb) (by decide) (by rw [← e_]; rfl)); have M2gr := Aside0.mk (show g2 ≠ gr from fun e_ => Kd.R_ne y2 (blk_below Bgr.out hb) (by decide) (by rw [← e_]; rfl)); clear y1 y2 hT; replace HB := Aside0.mk (below_step HB.out hb); replace Bgt := Aside0.mk (blk_below Bgt.out hb); replace Bgr := Aside0.mk (blk_below Bgr.out hb); clear hb; (try clear hzgt_0); (try clear hzgt_1); (try clear hzgt_2); (try clear hzgt_3); (try clear hfgt_0); (try clear hfgt_1); (try clear hfgt_2); (try clear hfgt_3); (try clear hzgr_0); (try clear hzgr_1); (try clear hzgr_2); (try clear hzgr_3); (try clear hfgr_0); (try clear hfgr_1); (try clear hfgr_2); (try clear hfgr_3)) | ((with_reducible refine gate_dst (N := 9) rfl ?_); refine box_event ?hg (N := 9) ?hd (cs := #[.int .i64 0, .slice none 0 0, .slice none 0 0, .int .i64 0]) (t := 25) ?hr ?_; (case hd => rfl); (case hg => rfl); (case hr => first | (go_simp; done) | (go_simp; rfl)); intro go hg w4 hbox hb; have Ggo := Aside0.mk (show w.heap.size ≤ go by rw [hg]; exact HB.out.size); have Ngt_go := Aside0.mk (show gt ≠ go by rw [hg]; exact Nat.ne_of_lt (blk_lt Bgt.out)); have Ngo_gt := Aside0.mk (show go ≠ gt by rw [hg]; exact Nat.ne_of_gt (blk_lt Bgt.out)); have Ngr_go := Aside0.mk (show gr ≠ go by rw [hg]; exact Nat.ne_of_lt (blk_lt Bgr.out)); have Ngo_gr := Aside0.mk (show go ≠ gr by rw [hg]; exact Nat.ne_of_gt (blk_lt Bgr.out)); have M1go := Aside0.mk (show g1 ≠ go by rw [hg]; exact Nat.ne_of_lt TT.out.2.2.2.2.2.1); have M2go := Aside0.mk (show g2 ≠ go by rw [hg]; exact Nat.ne_of_lt TT.out.2.2.2.2.2.2); replace HB := Aside0.mk (below_step HB.out hb); replace Bgt := Aside0.mk (blk_below Bgt.out hb); replace Bgr := Aside0.mk (blk_below Bgr.out hb); replace TT := Aside0.mk (TT.out.below hb); have Bgo := Aside0.mk hbox; clear hb hbox hg; (try clear hzgt_0); (try clear hzgt_1); (try clear hzgt_2); (try clear hzgt_3); (try clear hfgt_0); (try clear hfgt_1); (try clear hfgt_2); (try clear hfgt_3); (try clear hzgr_0); (try clear hzgr_1); (try clear hzgr_2); (try clear hzgr_3); (try clear hfgr_0); (try clear hfgr_1); (try clear hfgr_2); (try clear hfgr_3); (try clear hzgo_0); (try clear hzgo_1); (try clear hzgo_2); (try clear hzgo_3); (try clear hfgo_0); (try clear hfgo_1); (try clear hfgo_2); (try clear hfgo_3); have hzgo_0 : w4.cell? ⟨go, 0, none⟩ = some (.int .i64 0) := (blk_cell Bgo.out 0).trans rfl; have hzgo_1 : w4.cell? ⟨go, 1, none⟩ = some (.slice none 0 0) := (blk_cell Bgo.out 1).trans rfl; have hzgo_2 : w4.cell? ⟨go, 2, none⟩ = some (.slice none 0 0) := (blk_cell Bgo.out 2).trans rfl; have hzgo_3 : w4.cell? ⟨go, 3, none⟩ = some (.int .i64 0) := (blk_cell Bgo.out 3).trans rfl; have hfgo_0 := blk_frozen Bgo.out 0; have hfgo_1 := blk_frozen Bgo.out 1; have hfgo_2 := blk_frozen Bgo.out 2; have hfgo_3 := blk_frozen Bgo.out 3) | ((with_reducible refine gate_store (t := 25) (p := 9) rfl ?_); refine store_event (t := 25) (p := 9) (v := ?vo_w5) (w1 := ((((w4.setCell ⟨go, 0, none⟩ (.int .i64 o1)).setCell ⟨go, 1, none⟩ (.slice (some ⟨g1, 0, none⟩) o2.length c1)).setCell ⟨go, 2, none⟩ (.slice (some ⟨g2, 0, none⟩) o3.length c2)).setCell ⟨go, 3, none⟩ (.int .i64 o4))) ?hg ?ho ?hn ?hr ?_; (case ho => rfl); (case hg => rfl); (case hn => rfl); (case hr => first | (go_simp; done) | (go_simp; rfl)); intro w5 hw; replace HB := Aside0.mk (show Below w.heap.size w w5 from by rw [hw]; exact below_set (below_set (below_set (below_set (HB.out) Ggo.out) Ggo.out) Ggo.out) Ggo.out); replace Bgt := Aside0.mk (show w5.heap[gt]? = some (.cells #[.int .i64 a0_0, .slice A0_1 l0_1.length c0_1, .slice A0_2 l0_2.length c0_2, .int .i64 a0_3] 25 (0, 0)) from by rw [hw]; exact blk_far (blk_far (blk_far (blk_far (Bgt.out) (p := ⟨go, 0, none⟩) Ngt_go.out _) (p := ⟨go, 1, none⟩) Ngt_go.out _) (p := ⟨go, 2, none⟩) Ngt_go.out _) (p := ⟨go, 3, none⟩) Ngt_go.out _); replace Bgr := Aside0.mk (show w5.heap[gr]? = some (.cells #[.int .i64 0, .slice none 0 0, .slice none 0 0, .int .i64 0] 25 (0, 0)) from by rw [hw]; exact blk_far (blk_far (blk_far (blk_far (Bgr.out) (p := ⟨go, 0, none⟩) Ngr_go.out _) (p := ⟨go, 1, none⟩) Ngr_go.out _) (p := ⟨go, 2, none⟩) Ngr_go.out _) (p := ⟨go, 3, none⟩) Ngr_go.out _); replace Bgo := Aside0.mk (show w5.heap[go]? = some (.cells #[.int .i64 o1, .slice (some ⟨g1, 0, none⟩) o2.length c1, .slice (some ⟨g2, 0, none⟩) o3.length c2, .int .i64 o4] 25 (0, 0)) from by rw [hw]; exact blk_put (cs := #[.int .i64 o1, .slice (some ⟨g1, 0, none⟩) o2.length c1, .slice (some ⟨g2, 0, none⟩) o3.length c2, .int .i64 0]) (cs' := #[.int .i64 o1, .slice (some ⟨g1, 0, none⟩) o2.length c1, .slice (some ⟨g2, 0, none⟩) o3.length c2, .int .i64 o4]) (blk_put (cs := #[.int .i64 o1, .slice (some ⟨g1, 0, none⟩) o2.length c1, .slice none 0 0, .int .i64 0]) (cs' := #[.int .i64 o1, .slice (some ⟨g1, 0, none⟩) o2.length c1, .slice (some ⟨g2, 0, none⟩) o3.length c2, .int .i64 0]) (blk_put (cs := #[.int .i64 o1, .slice none 0 0, .slice none 0 0, .int .i64 0]) (cs' := #[.int .i64 o1, .slice (some ⟨g1, 0, none⟩) o2.length c1, .slice none 0 0, .int .i64 0]) (blk_put (cs := #[.int .i64 0, .slice none 0 0, .slice none 0 0, .int .i64 0]) (cs' := #[.int .i64 o1, .slice none 0 0, .slice none 0 0, .int .i64 0]) (Bgo.out) 0 (.int .i64 o1) rfl) 1 (.slice (some ⟨g1, 0, none⟩) o2.length c1) rfl) 2 (.slice (some ⟨g2, 0, none⟩) o3.length c2) rfl) 3 (.int .i64 o4) rfl); replace TT := Aside0.mk (show Tb w.heap.size w5 g1 g2 c1 c2 o2.length o3.length o2 o3 from by rw [hw]; exact Tb.far (Tb.far (Tb.far (Tb.far (TT.out) ⟨go, 0, none⟩ (.int .i64 o1) M1go.out M2go.out) ⟨go, 1, none⟩ (.slice (some ⟨g1, 0, none⟩) o2.length c1) M1go.out M2go.out) ⟨go, 2, none⟩ (.slice (some ⟨g2, 0, none⟩) o3.length c2) M1go.out M2go.out) ⟨go, 3, none⟩ (.int .i64 o4) M1go.out M2go.out); clear hw; (try clear hzgt_0); (try clear hzgt_1); (try clear hzgt_2); (try clear hzgt_3); (try clear hfgt_0); (try clear hfgt_1); (try clear hfgt_2); (try clear hfgt_3); (try clear hzgr_0); (try clear hzgr_1); (try clear hzgr_2); (try clear hzgr_3); (try clear hfgr_0); (try clear hfgr_1); (try clear hfgr_2); (try clear hfgr_3); (try clear hzgo_0); (try clear hzgo_1); (try clear hzgo_2); (try clear hzgo_3); (try clear hfgo_0); (try clear hfgo_1); (try clear hfgo_2); (try clear hfgo_3)) | (go_at_call 66; refine (impl_Table_find.calls go g1 g2 c1 c2 o1 o4 o2 o3 a1 1 i _ Bgo.out (Kd.R_reads' TT.out.1).2.2 (Kd.R_reads' TT.out.2.1).2.2 hF.out).mono ?_; rintro e w6 ⟨he, hb⟩; replace he := he.trans (show _ = Ending.returned (.pointer (some ⟨g1, i.toNat * 3, none⟩)) from rfl); subst he; replace HB := Aside0.mk (below_step HB.out hb); replace Bgt := Aside0.mk (blk_below Bgt.out hb); replace Bgr := Aside0.mk (blk_below Bgr.out hb); replace Bgo := Aside0.mk (blk_below Bgo.out hb); replace TT := Aside0.mk (TT.out.below hb); clear hb; obtain ⟨⟨hx0, hx1, hx2⟩, hy0, hy1, hy2⟩ := row_open TT.out.1 i I0.out I1.out; (try clear hzgt_0); (try clear hzgt_1); (try clear hzgt_2); (try clear hzgt_3); (try clear hfgt_0); (try clear hfgt_1); (try clear hfgt_2); (try clear hfgt_3); (try clear hzgr_0); (try clear hzgr_1); (try clear hzgr_2); (try clear hzgr_3); (try clear hfgr_0); (try clear hfgr_1); (try clear hfgr_2); (try clear hfgr_3); (try clear hzgo_0); (try clear hzgo_1); (try clear hzgo_2); (try clear hzgo_3); (try clear hfgo_0); (try clear hfgo_1); (try clear hfgo_2); (try clear hfgo_3)) | ((with_reducible refine gate_store (t := 3) (p := 25) rfl ?_); refine store_event (t := 3) (p := 25) (v := ?vo_w7) (w1 := (w6.setCell ⟨g1, i.toNat * 3 + 2, none⟩ (.int .i64 a2))) ?hg ?ho ?hn ?hr ?_; (case ho => rfl); (case hg => rfl); (case hn => rfl); (case hr => first | (go_simp; done) | (go_simp; rfl)); intro w7 hw; replace HB := Aside0.mk (show Below w.heap.size w w7 from by rw [hw]; exact below_set HB.out TT.out.2.2.2.1); replace Bgt := Aside0.mk (show w7.heap[gt]? = some (.cells #[.int .i64 a0_0, .slice A0_1 l0_1.length c0_1, .slice A0_2 l0_2.length c0_2, .int .i64 a0_3] 25 (0, 0)) from by rw [hw]; exact blk_far Bgt.out (p := ⟨g1, i.toNat * 3 + 2, none⟩) M1gt.out.symm _); replace Bgr := Aside0.mk (show w7.heap[gr]? = some (.cells #[.int .i64 0, .slice none 0 0, .slice none 0 0, .int .i64 0] 25 (0, 0)) from by rw [hw]; exact blk_far Bgr.out (p := ⟨g1, i.toNat * 3 + 2, none⟩) M1gr.out.symm _); replace Bgo := Aside0.mk (show w7.heap[go]? = some (.cells #[.int .i64 o1, .slice (some ⟨g1, 0, none⟩) o2.length c1, .slice (some ⟨g2, 0, none⟩) o3.length c2, .int .i64 o4] 25 (0, 0)) from by rw [hw]; exact blk_far Bgo.out (p := ⟨g1, i.toNat * 3 + 2, none⟩) M1go.out.symm _); replace TT := Aside0.mk (show Tb w.heap.size w7 g1 g2 c1 c2 o2.length o3.length (o2.set i.toNat ⟨(rd_T79 o2 i).f0, (rd_T79 o2 i).f1, a2⟩) o3 from by rw [hw]; exact TT.out.val1 i I0.out I1.out a2); clear hw; (try clear hzgt_0); (try clear hzgt_1); (try clear hzgt_2); (try clear hzgt_3); (try clear hfgt_0); (try clear hfgt_1); (try clear hfgt_2); (try clear hfgt_3); (try clear hzgr_0); (try clear hzgr_1); (try clear hzgr_2); (try clear hzgr_3); (try clear hfgr_0); (try clear hfgr_1); (try clear hfgr_2); (try clear hfgr_3); have hzgr_0 : w7.cell? ⟨gr, 0, none⟩ = some (.int .i64 0) := (blk_cell Bgr.out 0).trans rfl; have hzgr_1 : w7.cell? ⟨gr, 1, none⟩ = some (.slice none 0 0) := (blk_cell Bgr.out 1).trans rfl; have hzgr_2 : w7.cell? ⟨gr, 2, none⟩ = some (.slice none 0 0) := (blk_cell Bgr.out 2).trans rfl; have hzgr_3 : w7.cell? ⟨gr, 3, none⟩ = some (.int .i64 0) := (blk_cell Bgr.out 3).trans rfl; have hfgr_0 := blk_frozen Bgr.out 0; have hfgr_1 := blk_frozen Bgr.out 1; have hfgr_2 := blk_frozen Bgr.out 2; have hfgr_3 := blk_frozen Bgr.out 3; (try clear hzgo_0); (try clear hzgo_1); (try clear hzgo_2); (try clear hzgo_3); (try clear hfgo_0); (try clear hfgo_1); (try clear hfgo_2); (try clear hfgo_3); have hzgo_0 : w7.cell? ⟨go, 0, none⟩ = some (.int .i64 o1) := (blk_cell Bgo.out 0).trans rfl; have hzgo_1 : w7.cell? ⟨go, 1, none⟩ = some (.slice (some ⟨g1, 0, none⟩) o2.length c1) := (blk_cell Bgo.out 1).trans rfl; have hzgo_2 : w7.cell? ⟨go, 2, none⟩ = some (.slice (some ⟨g2, 0, none⟩) o3.length c2) := (blk_cell Bgo.out 2).trans rfl; have hzgo_3 : w7.cell? ⟨go, 3, none⟩ = some (.int .i64 o4) := (blk_cell Bgo.out 3).trans rfl; have hfgo_0 := blk_frozen Bgo.out 0; have hfgo_1 := blk_frozen Bgo.out 1; have hfgo_2 := blk_frozen Bgo.out 2; have hfgo_3 := blk_frozen Bgo.out 3; (try clear hx0 hx1 hx2 hy0 hy1 hy2)) | ((with_reducible refine gate_store (t := 25) (p := 6) rfl ?_); refine store_event (t := 25) (p := 6) (v := ?vo_w8) (w1 := ((((w7.setCell ⟨gr, 0, none⟩ (.int .i64 o1)).setCell ⟨gr, 1, none⟩ (.slice (some ⟨g1, 0, none⟩) o2.length c1)).setCell ⟨gr, 2, none⟩ (.slice (some ⟨g2, 0, none⟩) o3.length c2)).setCell ⟨gr, 3, none⟩ (.int .i64 o4))) ?hg ?ho ?hn ?hr ?_; (case ho => rfl); (case hg => rfl); (case hn => rfl); (case hr => first | (go_simp; done) | (go_simp; rfl)); intro w8 hw; replace HB := Aside0.mk (show Below w.heap.size w w8 from by rw [hw]; exact below_set (below_set (below_set (below_set (HB.out) Ggr.out) Ggr.out) Ggr.out) Ggr.out); replace Bgt := Aside0.mk (show w8.heap[gt]? = some (.cells #[.int .i64 a0_0, .slice A0_1 l0_1.length c0_1, .slice A0_2 l0_2.length c0_2, .int .i64 a0_3] 25 (0, 0)) from by rw [hw]; exact blk_far (blk_far (blk_far (blk_far (Bgt.out) (p := ⟨gr, 0, none⟩) Ngt_gr.out _) (p := ⟨gr, 1, none⟩) Ngt_gr.out _) (p := ⟨gr, 2, none⟩) Ngt_gr.out _) (p := ⟨gr, 3, none⟩) Ngt_gr.out _); replace Bgr := Aside0.mk (show w8.heap[gr]? = some (.cells #[.int .i64 o1, .slice (some ⟨g1, 0, none⟩) o2.length c1, .slice (some ⟨g2, 0, none⟩) o3.length c2, .int .i64 o4] 25 (0, 0)) from by rw [hw]; exact blk_put (cs := #[.int .i64 o1, .slice (some ⟨g1, 0, none⟩) o2.length c1, .slice (some ⟨g2, 0, none⟩) o3.length c2, .int .i64 0]) (cs' := #[.int .i64 o1, .slice (some ⟨g1, 0, none⟩) o2.length c1, .slice (some ⟨g2, 0, none⟩) o3.length c2, .int .i64 o4]) (blk_put (cs := #[.int .i64 o1, .slice (some ⟨g1, 0, none⟩) o2.length c1, .slice none 0 0, .int .i64 0]) (cs' := #[.int .i64 o1, .slice (some ⟨g1, 0, none⟩) o2.length c1, .slice (some ⟨g2, 0, none⟩) o3.length c2, .int .i64 0]) (blk_put (cs := #[.int .i64 o1, .slice none 0 0, .slice none 0 0, .int .i64 0]) (cs' := #[.int .i64 o1, .slice (some ⟨g1, 0, none⟩) o2.length c1, .slice none 0 0, .int .i64 0]) (blk_put (cs := #[.int .i64 0, .slice none 0 0, .slice none 0 0, .int .i64 0]) (cs' := #[.int .i64 o1, .slice none 0 0, .slice none 0 0, .int .i64 0]) (Bgr.out) 0 (.int .i64 o1) rfl) 1 (.slice (some ⟨g1, 0, none⟩) o2.length c1) rfl) 2 (.slice (some ⟨g2, 0, none⟩) o3.length c2) rfl) 3 (.int .i64 o4) rfl); replace Bgo := Aside0.mk (show w8.heap[go]? = some (.cells #[.int .i64 o1, .slice (some ⟨g1, 0, none⟩) o2.length c1, .slice (some ⟨g2, 0, none⟩) o3.length c2, .int .i64 o4] 25 (0, 0)) from by rw [hw]; exact blk_far (blk_far (blk_far (blk_far (Bgo.out) (p := ⟨gr, 0, none⟩) Ngo_gr.out _) (p := ⟨gr, 1, none⟩) Ngo_gr.out _) (p := ⟨gr, 2, none⟩) Ngo_gr.out _) (p := ⟨gr, 3, none⟩) Ngo_gr.out _); replace TT := Aside0.mk (show Tb w.heap.size w8 g1 g2 c1 c2 o2.length o3.length (o2.set i.toNat ⟨(rd_T79 o2 i).f0, (rd_T79 o2 i).f1, a2⟩) o3 from by rw [hw]; exact Tb.far (Tb.far (Tb.far (Tb.far (TT.out) ⟨gr, 0, none⟩ (.int .i64 o1) M1gr.out M2gr.out) ⟨gr, 1, none⟩ (.slice (some ⟨g1, 0, none⟩) o2.length c1) M1gr.out M2gr.out) ⟨gr, 2, none⟩ (.slice (some ⟨g2, 0, none⟩) o3.length c2) M1gr.out M2gr.out) ⟨gr, 3, none⟩ (.int .i64 o4) M1gr.out M2gr.out); clear hw; (try clear hzgt_0); (try clear hzgt_1); (try clear hzgt_2); (try clear hzgt_3); (try clear hfgt_0); (try clear hfgt_1); (try clear hfgt_2); (try clear hfgt_3); (try clear hzgr_0); (try clear hzgr_1); (try clear hzgr_2); (try clear hzgr_3); (try clear hfgr_0); (try clear hfgr_1); (try clear hfgr_2); (try clear hfgr_3); (try clear hzgo_0); (try clear hzgo_1); (try clear hzgo_2); (try clear hzgo_3); (try clear hfgo_0); (try clear hfgo_1); (try clear hfgo_2); (try clear hfgo_3)))
  refine bodyPost_ret (results_ctt rfl _ _ gr 25 #[.int .i64 o1, .slice (some ⟨g1, 0, none⟩) o2.length c1, .slice (some ⟨g2, 0, none⟩) o3.length c2, .int .i64 o4] (0, 0) _ rfl Bgr.out Try.underlying25 rfl (by kernel_rfl)) rfl ?_
  exact ⟨_, _, rfl, TT.out.back.1, TT.out.back.2, HB.out⟩
 ·have hF := Aside0.mk hf
  clear hf
  have I0 := Aside0.mk i0
  have I1 := Aside0.mk i1
  clear i0 i1
  simp only [show ¬ ((2 : Int) = 1) by decide, if_true, if_false, Option.some.injEq, Prod.mk.injEq] at h
  obtain ⟨rfl, rfl, rfl, rfl, rfl, rfl⟩ := h
  go_enter Try.func55, Try.ntmps55
  go_wp2_with (first | ((with_reducible refine gate_dst (N := 3) rfl ?_); refine box_event ?hg (N := 3) ?hd (cs := #[.int .i64 a0_0, .slice A0_1 l0_1.length c0_1, .slice A0_2 l0_2.length c0_2, .int .i64 a0_3]) (t := 25) ?hr ?_; (case hd => rfl); (case hg => rfl); (case hr => first | (go_simp; done) | (go_simp; rfl)); intro gt hg w1 hbox hb; have Ggt := Aside0.mk (show w.heap.size ≤ gt by rw [hg]; exact Nat.le_refl _); have HB := Aside0.mk hb; have Bgt := Aside0.mk hbox; clear hb hbox hg; (try clear hzgt_0); (try clear hzgt_1); (try clear hzgt_2); (try clear hzgt_3); (try clear hfgt_0); (try clear hfgt_1); (try clear hfgt_2); (try clear hfgt_3)) | ((with_reducible refine gate_dst (N := 6) rfl ?_); refine box_event ?hg (N := 6) ?hd (cs := #[.int .i64 0, .slice none 0 0, .slice none 0 0, .int .i64 0]) (t := 25) ?hr ?_; (case hd => rfl); (case hg => rfl); (case hr => first | (go_simp; done) | (go_simp; rfl)); intro gr hg w2 hbox hb; have Ggr := Aside0.mk (show w.heap.size ≤ gr by rw [hg]; exact HB.out.size); have Ngt_gr := Aside0.mk (show gt ≠ gr by rw [hg]; exact Nat.ne_of_lt (blk_lt Bgt.out)); have Ngr_gt := Aside0.mk (show gr ≠ gt by rw [hg]; exact Nat.ne_of_gt (blk_lt Bgt.out)); replace HB := Aside0.mk (below_step HB.out hb); replace Bgt := Aside0.mk (blk_below Bgt.out hb); have Bgr := Aside0.mk hbox; clear hb hbox hg; (try clear hzgt_0); (try clear hzgt_1); (try clear hzgt_2); (try clear hzgt_3); (try clear hfgt_0); (try clear hfgt_1); (try clear hfgt_2); (try clear hfgt_3); have hzgt_0 : w2.cell? ⟨gt, 0, none⟩ = some (.int .i64 a0_0) := (blk_cell Bgt.out 0).trans rfl; have hzgt_1 : w2.cell? ⟨gt, 1, none⟩ = some (.slice A0_1 l0_1.length c0_1) := (blk_cell Bgt.out 1).trans rfl; have hzgt_2 : w2.cell? ⟨gt, 2, none⟩ = some (.slice A0_2 l0_2.length c0_2) := (blk_cell Bgt.out 2).trans rfl; have hzgt_3 : w2.cell? ⟨gt, 3, none⟩ = some (.int .i64 a0_3) := (blk_cell Bgt.out 3).trans rfl; have hfgt_0 := blk_frozen Bgt.out 0; have hfgt_1 := blk_frozen Bgt.out 1; have hfgt_2 := blk_frozen Bgt.out 2; have hfgt_3 := blk_frozen Bgt.out 3; (try clear hzgr_0); (try clear hzgr_1); (try clear hzgr_2); (try clear hzgr_3); (try clear hfgr_0); (try clear hfgr_1); (try clear hfgr_2); (try clear hfgr_3)) | (go_at_call 80; refine (impl_ownTable.calls a0_0 A0_1 c0_1 l0_1 A0_2 c0_2 l0_2 a0_3 o1 o2 o3 o4 _ (Kd.C_below hr.out.1 HB.out) hr.out.2.1 (Kd.C_below hr.out.2.2.1 HB.out) hr.out.2.2.2 hO.out).mono ?_; rintro e w3 ⟨v1, v2, rfl, y1, y2, hb⟩; have hs_ := HB.out.size; replace y1 := Kd.R_lower y1 hs_; replace y2 := Kd.R_lower y2 hs_; clear hs_; obtain ⟨g1, g2, c1, c2, rfl, rfl, hT⟩ := Tb.of y1 y2 P1.out P2.out; have TT := Aside0.mk hT; have M1gt := Aside0.mk (show g1 ≠ gt from fun e_ => Kd.R_ne y1 (blk_below Bgt.out hb) (by decide) (by rw [← e_]; rfl)); have M2gt := Aside0.mk (show g2 ≠ gt from fun e_ => Kd.R_ne y2 (blk_below Bgt.out hb) (by decide) (by rw [← e_]; rfl)); have M1gr := Aside0.mk (show g1 ≠ gr from fun e_ => Kd.R_ne y1 (blk_below Bgr.out hb) (by decide) (by rw [← e_]; rfl)); have M2gr := Aside0.mk (show g2 ≠ gr from fun e_ => Kd.R_ne y2 (blk_below Bgr.out hb) (by decide) (by rw [← e_]; rfl)); clear y1 y2 hT; replace HB := Aside0.mk (below_step HB.out hb); replace Bgt := Aside0.mk (blk_below Bgt.out hb); replace Bgr := Aside0.mk (blk_below Bgr.out hb); clear hb; (try clear hzgt_0); (try clear hzgt_1); (try clear hzgt_2); (try clear hzgt_3); (try clear hfgt_0); (try clear hfgt_1); (try clear hfgt_2); (try clear hfgt_3); (try clear hzgr_0); (try clear hzgr_1); (try clear hzgr_2); (try clear hzgr_3); (try clear hfgr_0); (try clear hfgr_1); (try clear hfgr_2); (try clear hfgr_3)) | ((with_reducible refine gate_dst (N := 9) rfl ?_); refine box_event ?hg (N := 9) ?hd (cs := #[.int .i64 0, .slice none 0 0, .slice none 0 0, .int .i64 0]) (t := 25) ?hr ?_; (case hd => rfl); (case hg => rfl); (case hr => first | (go_simp; done) | (go_simp; rfl)); intro go hg w4 hbox hb; have Ggo := Aside0.mk (show w.heap.size ≤ go by rw [hg]; exact HB.out.size); have Ngt_go := Aside0.mk (show gt ≠ go by rw [hg]; exact Nat.ne_of_lt (blk_lt Bgt.out)); have Ngo_gt := Aside0.mk (show go ≠ gt by rw [hg]; exact Nat.ne_of_gt (blk_lt Bgt.out)); have Ngr_go := Aside0.mk (show gr ≠ go by rw [hg]; exact Nat.ne_of_lt (blk_lt Bgr.out)); have Ngo_gr := Aside0.mk (show go ≠ gr by rw [hg]; exact Nat.ne_of_gt (blk_lt Bgr.out)); have M1go := Aside0.mk (show g1 ≠ go by rw [hg]; exact Nat.ne_of_lt TT.out.2.2.2.2.2.1); have M2go := Aside0.mk (show g2 ≠ go by rw [hg]; exact Nat.ne_of_lt TT.out.2.2.2.2.2.2); replace HB := Aside0.mk (below_step HB.out hb); replace Bgt := Aside0.mk (blk_below Bgt.out hb); replace Bgr := Aside0.mk (blk_below Bgr.out hb); replace TT := Aside0.mk (TT.out.below hb); have Bgo := Aside0.mk hbox; clear hb hbox hg; (try clear hzgt_0); (try clear hzgt_1); (try clear hzgt_2); (try clear hzgt_3); (try clear hfgt_0); (try clear hfgt_1); (try clear hfgt_2); (try clear hfgt_3); (try clear hzgr_0); (try clear hzgr_1); (try clear hzgr_2); (try clear hzgr_3); (try clear hfgr_0); (try clear hfgr_1); (try clear hfgr_2); (try clear hfgr_3); (try clear hzgo_0); (try clear hzgo_1); (try clear hzgo_2); (try clear hzgo_3); (try clear hfgo_0); (try clear hfgo_1); (try clear hfgo_2); (try clear hfgo_3); have hzgo_0 : w4.cell? ⟨go, 0, none⟩ = some (.int .i64 0) := (blk_cell Bgo.out 0).trans rfl; have hzgo_1 : w4.cell? ⟨go, 1, none⟩ = some (.slice none 0 0) := (blk_cell Bgo.out 1).trans rfl; have hzgo_2 : w4.cell? ⟨go, 2, none⟩ = some (.slice none 0 0) := (blk_cell Bgo.out 2).trans rfl; have hzgo_3 : w4.cell? ⟨go, 3, none⟩ = some (.int .i64 0) := (blk_cell Bgo.out 3).trans rfl; have hfgo_0 := blk_frozen Bgo.out 0; have hfgo_1 := blk_frozen Bgo.out 1; have hfgo_2 := blk_frozen Bgo.out 2; have hfgo_3 := blk_frozen Bgo.out 3) | ((with_reducible refine gate_store (t := 25) (p := 9) rfl ?_); refine store_event (t := 25) (p := 9) (v := ?vo_w5) (w1 := ((((w4.setCell ⟨go, 0, none⟩ (.int .i64 o1)).setCell ⟨go, 1, none⟩ (.slice (some ⟨g1, 0, none⟩) o2.length c1)).setCell ⟨go, 2, none⟩ (.slice (some ⟨g2, 0, none⟩) o3.length c2)).setCell ⟨go, 3, none⟩ (.int .i64 o4))) ?hg ?ho ?hn ?hr ?_; (case ho => rfl); (case hg => rfl); (case hn => rfl); (case hr => first | (go_simp; done) | (go_simp; rfl)); intro w5 hw; replace HB := Aside0.mk (show Below w.heap.size w w5 from by rw [hw]; exact below_set (below_set (below_set (below_set (HB.out) Ggo.out) Ggo.out) Ggo.out) Ggo.out); replace Bgt := Aside0.mk (show w5.heap[gt]? = some (.cells #[.int .i64 a0_0, .slice A0_1 l0_1.length c0_1, .slice A0_2 l0_2.length c0_2, .int .i64 a0_3] 25 (0, 0)) from by rw [hw]; exact blk_far (blk_far (blk_far (blk_far (Bgt.out) (p := ⟨go, 0, none⟩) Ngt_go.out _) (p := ⟨go, 1, none⟩) Ngt_go.out _) (p := ⟨go, 2, none⟩) Ngt_go.out _) (p := ⟨go, 3, none⟩) Ngt_go.out _); replace Bgr := Aside0.mk (show w5.heap[gr]? = some (.cells #[.int .i64 0, .slice none 0 0, .slice none 0 0, .int .i64 0] 25 (0, 0)) from by rw [hw]; exact blk_far (blk_far (blk_far (blk_far (Bgr.out) (p := ⟨go, 0, none⟩) Ngr_go.out _) (p := ⟨go, 1, none⟩) Ngr_go.out _) (p := ⟨go, 2, none⟩) Ngr_go.out _) (p := ⟨go, 3, none⟩) Ngr_go.out _); replace Bgo := Aside0.mk (show w5.heap[go]? = some (.cells #[.int .i64 o1, .slice (some ⟨g1, 0, none⟩) o2.length c1, .slice (some ⟨g2, 0, none⟩) o3.length c2, .int .i64 o4] 25 (0, 0)) from by rw [hw]; exact blk_put (cs := #[.int .i64 o1, .slice (some ⟨g1, 0, none⟩) o2.length c1, .slice (some ⟨g2, 0, none⟩) o3.length c2, .int .i64 0]) (cs' := #[.int .i64 o1, .slice (some ⟨g1, 0, none⟩) o2.length c1, .slice (some ⟨g2, 0, none⟩) o3.length c2, .int .i64 o4]) (blk_put (cs := #[.int .i64 o1, .slice (some ⟨g1, 0, none⟩) o2.length c1, .slice none 0 0, .int .i64 0]) (cs' := #[.int .i64 o1, .slice (some ⟨g1, 0, none⟩) o2.length c1, .slice (some ⟨g2, 0, none⟩) o3.length c2, .int .i64 0]) (blk_put (cs := #[.int .i64 o1, .slice none 0 0, .slice none 0 0, .int .i64 0]) (cs' := #[.int .i64 o1, .slice (some ⟨g1, 0, none⟩) o2.length c1, .slice none 0 0, .int .i64 0]) (blk_put (cs := #[.int .i64 0, .slice none 0 0, .slice none 0 0, .int .i64 0]) (cs' := #[.int .i64 o1, .slice none 0 0, .slice none 0 0, .int .i64 0]) (Bgo.out) 0 (.int .i64 o1) rfl) 1 (.slice (some ⟨g1, 0, none⟩) o2.length c1) rfl) 2 (.slice (some ⟨g2, 0, none⟩) o3.length c2) rfl) 3 (.int .i64 o4) rfl); replace TT := Aside0.mk (show Tb w.heap.size w5 g1 g2 c1 c2 o2.length o3.length o2 o3 from by rw [hw]; exact Tb.far (Tb.far (Tb.far (Tb.far (TT.out) ⟨go, 0, none⟩ (.int .i64 o1) M1go.out M2go.out) ⟨go, 1, none⟩ (.slice (some ⟨g1, 0, none⟩) o2.length c1) M1go.out M2go.out) ⟨go, 2, none⟩ (.slice (some ⟨g2, 0, none⟩) o3.length c2) M1go.out M2go.out) ⟨go, 3, none⟩ (.int .i64 o4) M1go.out M2go.out); clear hw; (try clear hzgt_0); (try clear hzgt_1); (try clear hzgt_2); (try clear hzgt_3); (try clear hfgt_0); (try clear hfgt_1); (try clear hfgt_2); (try clear hfgt_3); (try clear hzgr_0); (try clear hzgr_1); (try clear hzgr_2); (try clear hzgr_3); (try clear hfgr_0); (try clear hfgr_1); (try clear hfgr_2); (try clear hfgr_3); (try clear hzgo_0); (try clear hzgo_1); (try clear hzgo_2); (try clear hzgo_3); (try clear hfgo_0); (try clear hfgo_1); (try clear hfgo_2); (try clear hfgo_3)) | (go_at_call 66; refine (impl_Table_find.calls go g1 g2 c1 c2 o1 o4 o2 o3 a1 2 i _ Bgo.out (Kd.R_reads' TT.out.1).2.2 (Kd.R_reads' TT.out.2.1).2.2 hF.out).mono ?_; rintro e w6 ⟨he, hb⟩; replace he := he.trans (show _ = Ending.returned (.pointer (some ⟨g2, i.toNat * 3, none⟩)) from rfl); subst he; replace HB := Aside0.mk (below_step HB.out hb); replace Bgt := Aside0.mk (blk_below Bgt.out hb); replace Bgr := Aside0.mk (blk_below Bgr.out hb); replace Bgo := Aside0.mk (blk_below Bgo.out hb); replace TT := Aside0.mk (TT.out.below hb); clear hb; obtain ⟨⟨hx0, hx1, hx2⟩, hy0, hy1, hy2⟩ := row_open TT.out.2.1 i I0.out I1.out; (try clear hzgt_0); (try clear hzgt_1); (try clear hzgt_2); (try clear hzgt_3); (try clear hfgt_0); (try clear hfgt_1); (try clear hfgt_2); (try clear hfgt_3); (try clear hzgr_0); (try clear hzgr_1); (try clear hzgr_2); (try clear hzgr_3); (try clear hfgr_0); (try clear hfgr_1); (try clear hfgr_2); (try clear hfgr_3); (try clear hzgo_0); (try clear hzgo_1); (try clear hzgo_2); (try clear hzgo_3); (try clear hfgo_0); (try clear hfgo_1); (try clear hfgo_2); (try clear hfgo_3)) | ((with_reducible refine gate_store (t := 3) (p := 25) rfl ?_); refine store_event (t := 3) (p := 25) (v := ?vo_w7) (w1 := (w6.setCell ⟨g2, i.toNat * 3 + 2, none⟩ (.int .i64 a2))) ?hg ?ho ?hn ?hr ?_; (case ho => rfl); (case hg => rfl); (case hn => rfl); (case hr => first | (go_simp; done) | (go_simp; rfl)); intro w7 hw; replace HB := Aside0.mk (show Below w.heap.size w w7 from by rw [hw]; exact below_set HB.out TT.out.2.2.2.2.1); replace Bgt := Aside0.mk (show w7.heap[gt]? = some (.cells #[.int .i64 a0_0, .slice A0_1 l0_1.length c0_1, .slice A0_2 l0_2.length c0_2, .int .i64 a0_3] 25 (0, 0)) from by rw [hw]; exact blk_far Bgt.out (p := ⟨g2, i.toNat * 3 + 2, none⟩) M2gt.out.symm _); replace Bgr := Aside0.mk (show w7.heap[gr]? = some (.cells #[.int .i64 0, .slice none 0 0, .slice none 0 0, .int .i64 0] 25 (0, 0)) from by rw [hw]; exact blk_far Bgr.out (p := ⟨g2, i.toNat * 3 + 2, none⟩) M2gr.out.symm _); replace Bgo := Aside0.mk (show w7.heap[go]? = some (.cells #[.int .i64 o1, .slice (some ⟨g1, 0, none⟩) o2.length c1, .slice (some ⟨g2, 0, none⟩) o3.length c2, .int .i64 o4] 25 (0, 0)) from by rw [hw]; exact blk_far Bgo.out (p := ⟨g2, i.toNat * 3 + 2, none⟩) M2go.out.symm _); replace TT := Aside0.mk (show Tb w.heap.size w7 g1 g2 c1 c2 o2.length o3.length o2 (o3.set i.toNat ⟨(rd_T79 o3 i).f0, (rd_T79 o3 i).f1, a2⟩) from by rw [hw]; exact TT.out.val2 i I0.out I1.out a2); clear hw; (try clear hzgt_0); (try clear hzgt_1); (try clear hzgt_2); (try clear hzgt_3); (try clear hfgt_0); (try clear hfgt_1); (try clear hfgt_2); (try clear hfgt_3); (try clear hzgr_0); (try clear hzgr_1); (try clear hzgr_2); (try clear hzgr_3); (try clear hfgr_0); (try clear hfgr_1); (try clear hfgr_2); (try clear hfgr_3); have hzgr_0 : w7.cell? ⟨gr, 0, none⟩ = some (.int .i64 0) := (blk_cell Bgr.out 0).trans rfl; have hzgr_1 : w7.cell? ⟨gr, 1, none⟩ = some (.slice none 0 0) := (blk_cell Bgr.out 1).trans rfl; have hzgr_2 : w7.cell? ⟨gr, 2, none⟩ = some (.slice none 0 0) := (blk_cell Bgr.out 2).trans rfl; have hzgr_3 : w7.cell? ⟨gr, 3, none⟩ = some (.int .i64 0) := (blk_cell Bgr.out 3).trans rfl; have hfgr_0 := blk_frozen Bgr.out 0; have hfgr_1 := blk_frozen Bgr.out 1; have hfgr_2 := blk_frozen Bgr.out 2; have hfgr_3 := blk_frozen Bgr.out 3; (try clear hzgo_0); (try clear hzgo_1); (try clear hzgo_2); (try clear hzgo_3); (try clear hfgo_0); (try clear hfgo_1); (try clear hfgo_2); (try clear hfgo_3); have hzgo_0 : w7.cell? ⟨go, 0, none⟩ = some (.int .i64 o1) := (blk_cell Bgo.out 0).trans rfl; have hzgo_1 : w7.cell? ⟨go, 1, none⟩ = some (.slice (some ⟨g1, 0, none⟩) o2.length c1) := (blk_cell Bgo.out 1).trans rfl; have hzgo_2 : w7.cell? ⟨go, 2, none⟩ = some (.slice (some ⟨g2, 0, none⟩) o3.length c2) := (blk_cell Bgo.out 2).trans rfl; have hzgo_3 : w7.cell? ⟨go, 3, none⟩ = some (.int .i64 o4) := (blk_cell Bgo.out 3).trans rfl; have hfgo_0 := blk_frozen Bgo.out 0; have hfgo_1 := blk_frozen Bgo.out 1; have hfgo_2 := blk_frozen Bgo.out 2; have hfgo_3 := blk_frozen Bgo.out 3; (try clear hx0 hx1 hx2 hy0 hy1 hy2)) | ((with_reducible refine gate_store (t := 25) (p := 6) rfl ?_); refine store_event (t := 25) (p := 6) (v := ?vo_w8) (w1 := ((((w7.setCell ⟨gr, 0, none⟩ (.int .i64 o1)).setCell ⟨gr, 1, none⟩ (.slice (some ⟨g1, 0, none⟩) o2.length c1)).setCell ⟨gr, 2, none⟩ (.slice (some ⟨g2, 0, none⟩) o3.length c2)).setCell ⟨gr, 3, none⟩ (.int .i64 o4))) ?hg ?ho ?hn ?hr ?_; (case ho => rfl); (case hg => rfl); (case hn => rfl); (case hr => first | (go_simp; done) | (go_simp; rfl)); intro w8 hw; replace HB := Aside0.mk (show Below w.heap.size w w8 from by rw [hw]; exact below_set (below_set (below_set (below_set (HB.out) Ggr.out) Ggr.out) Ggr.out) Ggr.out); replace Bgt := Aside0.mk (show w8.heap[gt]? = some (.cells #[.int .i64 a0_0, .slice A0_1 l0_1.length c0_1, .slice A0_2 l0_2.length c0_2, .int .i64 a0_3] 25 (0, 0)) from by rw [hw]; exact blk_far (blk_far (blk_far (blk_far (Bgt.out) (p := ⟨gr, 0, none⟩) Ngt_gr.out _) (p := ⟨gr, 1, none⟩) Ngt_gr.out _) (p := ⟨gr, 2, none⟩) Ngt_gr.out _) (p := ⟨gr, 3, none⟩) Ngt_gr.out _); replace Bgr := Aside0.mk (show w8.heap[gr]? = some (.cells #[.int .i64 o1, .slice (some ⟨g1, 0, none⟩) o2.length c1, .slice (some ⟨g2, 0, none⟩) o3.length c2, .int .i64 o4] 25 (0, 0)) from by rw [hw]; exact blk_put (cs := #[.int .i64 o1, .slice (some ⟨g1, 0, none⟩) o2.length c1, .slice (some ⟨g2, 0, none⟩) o3.length c2, .int .i64 0]) (cs' := #[.int .i64 o1, .slice (some ⟨g1, 0, none⟩) o2.length c1, .slice (some ⟨g2, 0, none⟩) o3.length c2, .int .i64 o4]) (blk_put (cs := #[.int .i64 o1, .slice (some ⟨g1, 0, none⟩) o2.length c1, .slice none 0 0, .int .i64 0]) (cs' := #[.int .i64 o1, .slice (some ⟨g1, 0, none⟩) o2.length c1, .slice (some ⟨g2, 0, none⟩) o3.length c2, .int .i64 0]) (blk_put (cs := #[.int .i64 o1, .slice none 0 0, .slice none 0 0, .int .i64 0]) (cs' := #[.int .i64 o1, .slice (some ⟨g1, 0, none⟩) o2.length c1, .slice none 0 0, .int .i64 0]) (blk_put (cs := #[.int .i64 0, .slice none 0 0, .slice none 0 0, .int .i64 0]) (cs' := #[.int .i64 o1, .slice none 0 0, .slice none 0 0, .int .i64 0]) (Bgr.out) 0 (.int .i64 o1) rfl) 1 (.slice (some ⟨g1, 0, none⟩) o2.length c1) rfl) 2 (.slice (some ⟨g2, 0, none⟩) o3.length c2) rfl) 3 (.int .i64 o4) rfl); replace Bgo := Aside0.mk (show w8.heap[go]? = some (.cells #[.int .i64 o1, .slice (some ⟨g1, 0, none⟩) o2.length c1, .slice (some ⟨g2, 0, none⟩) o3.length c2, .int .i64 o4] 25 (0, 0)) from by rw [hw]; exact blk_far (blk_far (blk_far (blk_far (Bgo.out) (p := ⟨gr, 0, none⟩) Ngo_gr.out _) (p := ⟨gr, 1, none⟩) Ngo_gr.out _) (p := ⟨gr, 2, none⟩) Ngo_gr.out _) (p := ⟨gr, 3, none⟩) Ngo_gr.out _); replace TT := Aside0.mk (show Tb w.heap.size w8 g1 g2 c1 c2 o2.length o3.length o2 (o3.set i.toNat ⟨(rd_T79 o3 i).f0, (rd_T79 o3 i).f1, a2⟩) from by rw [hw]; exact Tb.far (Tb.far (Tb.far (Tb.far (TT.out) ⟨gr, 0, none⟩ (.int .i64 o1) M1gr.out M2gr.out) ⟨gr, 1, none⟩ (.slice (some ⟨g1, 0, none⟩) o2.length c1) M1gr.out M2gr.out) ⟨gr, 2, none⟩ (.slice (some ⟨g2, 0, none⟩) o3.length c2) M1gr.out M2gr.out) ⟨gr, 3, none⟩ (.int .i64 o4) M1gr.out M2gr.out); clear hw; (try clear hzgt_0); (try clear hzgt_1); (try clear hzgt_2); (try clear hzgt_3); (try clear hfgt_0); (try clear hfgt_1); (try clear hfgt_2); (try clear hfgt_3); (try clear hzgr_0); (try clear hzgr_1); (try clear hzgr_2); (try clear hzgr_3); (try clear hfgr_0); (try clear hfgr_1); (try clear hfgr_2); (try clear hfgr_3); (try clear hzgo_0); (try clear hzgo_1); (try clear hzgo_2); (try clear hzgo_3); (try clear hfgo_0); (try clear hfgo_1); (try clear hfgo_2); (try clear hfgo_3)))
  refine bodyPost_ret (results_ctt rfl _ _ gr 25 #[.int .i64 o1, .slice (some ⟨g1, 0, none⟩) o2.length c1, .slice (some ⟨g2, 0, none⟩) o3.length c2, .int .i64 o4] (0, 0) _ rfl Bgr.out Try.underlying25 rfl (by kernel_rfl)) rfl ?_
  exact ⟨_, _, rfl, TT.out.back.1, TT.out.back.2, HB.out⟩
 ·have hF := Aside0.mk hf
  clear hf
  simp only [show ¬ ((0 : Int) = 1) by decide, show ¬ ((0 : Int) = 2) by decide, if_false] at h
  have H := Aside0.mk h
  clear h
  go_enter Try.func55, Try.ntmps55
  go_wp2_with (first | ((with_reducible refine gate_dst (N := 3) rfl ?_); refine box_event ?hg (N := 3) ?hd (cs := #[.int .i64 a0_0, .slice A0_1 l0_1.length c0_1, .slice A0_2 l0_2.length c0_2, .int .i64 a0_3]) (t := 25) ?hr ?_; (case hd => rfl); (case hg => rfl); (case hr => first | (go_simp; done) | (go_simp; rfl)); intro gt hg w1 hbox hb; have Ggt := Aside0.mk (show w.heap.size ≤ gt by rw [hg]; exact Nat.le_refl _); have HB := Aside0.mk hb; have Bgt := Aside0.mk hbox; clear hb hbox hg; (try clear hzgt_0); (try clear hzgt_1); (try clear hzgt_2); (try clear hzgt_3); (try clear hfgt_0); (try clear hfgt_1); (try clear hfgt_2); (try clear hfgt_3)) | ((with_reducible refine gate_dst (N := 6) rfl ?_); refine box_event ?hg (N := 6) ?hd (cs := #[.int .i64 0, .slice none 0 0, .slice none 0 0, .int .i64 0]) (t := 25) ?hr ?_; (case hd => rfl); (case hg => rfl); (case hr => first | (go_simp; done) | (go_simp; rfl)); intro gr hg w2 hbox hb; have Ggr := Aside0.mk (show w.heap.size ≤ gr by rw [hg]; exact HB.out.size); have Ngt_gr := Aside0.mk (show gt ≠ gr by rw [hg]; exact Nat.ne_of_lt (blk_lt Bgt.out)); have Ngr_gt := Aside0.mk (show gr ≠ gt by rw [hg]; exact Nat.ne_of_gt (blk_lt Bgt.out)); replace HB := Aside0.mk (below_step HB.out hb); replace Bgt := Aside0.mk (blk_below Bgt.out hb); have Bgr := Aside0.mk hbox; clear hb hbox hg; (try clear hzgt_0); (try clear hzgt_1); (try clear hzgt_2); (try clear hzgt_3); (try clear hfgt_0); (try clear hfgt_1); (try clear hfgt_2); (try clear hfgt_3); have hzgt_0 : w2.cell? ⟨gt, 0, none⟩ = some (.int .i64 a0_0) := (blk_cell Bgt.out 0).trans rfl; have hzgt_1 : w2.cell? ⟨gt, 1, none⟩ = some (.slice A0_1 l0_1.length c0_1) := (blk_cell Bgt.out 1).trans rfl; have hzgt_2 : w2.cell? ⟨gt, 2, none⟩ = some (.slice A0_2 l0_2.length c0_2) := (blk_cell Bgt.out 2).trans rfl; have hzgt_3 : w2.cell? ⟨gt, 3, none⟩ = some (.int .i64 a0_3) := (blk_cell Bgt.out 3).trans rfl; have hfgt_0 := blk_frozen Bgt.out 0; have hfgt_1 := blk_frozen Bgt.out 1; have hfgt_2 := blk_frozen Bgt.out 2; have hfgt_3 := blk_frozen Bgt.out 3; (try clear hzgr_0); (try clear hzgr_1); (try clear hzgr_2); (try clear hzgr_3); (try clear hfgr_0); (try clear hfgr_1); (try clear hfgr_2); (try clear hfgr_3)) | (go_at_call 80; refine (impl_ownTable.calls a0_0 A0_1 c0_1 l0_1 A0_2 c0_2 l0_2 a0_3 o1 o2 o3 o4 _ (Kd.C_below hr.out.1 HB.out) hr.out.2.1 (Kd.C_below hr.out.2.2.1 HB.out) hr.out.2.2.2 hO.out).mono ?_; rintro e w3 ⟨v1, v2, rfl, y1, y2, hb⟩; have hs_ := HB.out.size; replace y1 := Kd.R_lower y1 hs_; replace y2 := Kd.R_lower y2 hs_; clear hs_; obtain ⟨g1, g2, c1, c2, rfl, rfl, hT⟩ := Tb.of y1 y2 P1.out P2.out; have TT := Aside0.mk hT; have M1gt := Aside0.mk (show g1 ≠ gt from fun e_ => Kd.R_ne y1 (blk_below Bgt.out hb) (by decide) (by rw [← e_]; rfl)); have M2gt := Aside0.mk (show g2 ≠ gt from fun e_ => Kd.R_ne y2 (blk_below Bgt.out hb) (by decide) (by rw [← e_]; rfl)); have M1gr := Aside0.mk (show g1 ≠ gr from fun e_ => Kd.R_ne y1 (blk_below Bgr.out hb) (by decide) (by rw [← e_]; rfl)); have M2gr := Aside0.mk (show g2 ≠ gr from fun e_ => Kd.R_ne y2 (blk_below Bgr.out hb) (by decide) (by rw [← e_]; rfl)); clear y1 y2 hT; replace HB := Aside0.mk (below_step HB.out hb); replace Bgt := Aside0.mk (blk_below Bgt.out hb); replace Bgr := Aside0.mk (blk_below Bgr.out hb); clear hb; (try clear hzgt_0); (try clear hzgt_1); (try clear hzgt_2); (try clear hzgt_3); (try clear hfgt_0); (try clear hfgt_1); (try clear hfgt_2); (try clear hfgt_3); (try clear hzgr_0); (try clear hzgr_1); (try clear hzgr_2); (try clear hzgr_3); (try clear hfgr_0); (try clear hfgr_1); (try clear hfgr_2); (try clear hfgr_3)) | ((with_reducible refine gate_dst (N := 9) rfl ?_); refine box_event ?hg (N := 9) ?hd (cs := #[.int .i64 0, .slice none 0 0, .slice none 0 0, .int .i64 0]) (t := 25) ?hr ?_; (case hd => rfl); (case hg => rfl); (case hr => first | (go_simp; done) | (go_simp; rfl)); intro go hg w4 hbox hb; have Ggo := Aside0.mk (show w.heap.size ≤ go by rw [hg]; exact HB.out.size); have Ngt_go := Aside0.mk (show gt ≠ go by rw [hg]; exact Nat.ne_of_lt (blk_lt Bgt.out)); have Ngo_gt := Aside0.mk (show go ≠ gt by rw [hg]; exact Nat.ne_of_gt (blk_lt Bgt.out)); have Ngr_go := Aside0.mk (show gr ≠ go by rw [hg]; exact Nat.ne_of_lt (blk_lt Bgr.out)); have Ngo_gr := Aside0.mk (show go ≠ gr by rw [hg]; exact Nat.ne_of_gt (blk_lt Bgr.out)); have M1go := Aside0.mk (show g1 ≠ go by rw [hg]; exact Nat.ne_of_lt TT.out.2.2.2.2.2.1); have M2go := Aside0.mk (show g2 ≠ go by rw [hg]; exact Nat.ne_of_lt TT.out.2.2.2.2.2.2); replace HB := Aside0.mk (below_step HB.out hb); replace Bgt := Aside0.mk (blk_below Bgt.out hb); replace Bgr := Aside0.mk (blk_below Bgr.out hb); replace TT := Aside0.mk (TT.out.below hb); have Bgo := Aside0.mk hbox; clear hb hbox hg; (try clear hzgt_0); (try clear hzgt_1); (try clear hzgt_2); (try clear hzgt_3); (try clear hfgt_0); (try clear hfgt_1); (try clear hfgt_2); (try clear hfgt_3); (try clear hzgr_0); (try clear hzgr_1); (try clear hzgr_2); (try clear hzgr_3); (try clear hfgr_0); (try clear hfgr_1); (try clear hfgr_2); (try clear hfgr_3); (try clear hzgo_0); (try clear hzgo_1); (try clear hzgo_2); (try clear hzgo_3); (try clear hfgo_0); (try clear hfgo_1); (try clear hfgo_2); (try clear hfgo_3); have hzgo_0 : w4.cell? ⟨go, 0, none⟩ = some (.int .i64 0) := (blk_cell Bgo.out 0).trans rfl; have hzgo_1 : w4.cell? ⟨go, 1, none⟩ = some (.slice none 0 0) := (blk_cell Bgo.out 1).trans rfl; have hzgo_2 : w4.cell? ⟨go, 2, none⟩ = some (.slice none 0 0) := (blk_cell Bgo.out 2).trans rfl; have hzgo_3 : w4.cell? ⟨go, 3, none⟩ = some (.int .i64 0) := (blk_cell Bgo.out 3).trans rfl; have hfgo_0 := blk_frozen Bgo.out 0; have hfgo_1 := blk_frozen Bgo.out 1; have hfgo_2 := blk_frozen Bgo.out 2; have hfgo_3 := blk_frozen Bgo.out 3) | ((with_reducible refine gate_store (t := 25) (p := 9) rfl ?_); refine store_event (t := 25) (p := 9) (v := ?vo_w5) (w1 := ((((w4.setCell ⟨go, 0, none⟩ (.int .i64 o1)).setCell ⟨go, 1, none⟩ (.slice (some ⟨g1, 0, none⟩) o2.length c1)).setCell ⟨go, 2, none⟩ (.slice (some ⟨g2, 0, none⟩) o3.length c2)).setCell ⟨go, 3, none⟩ (.int .i64 o4))) ?hg ?ho ?hn ?hr ?_; (case ho => rfl); (case hg => rfl); (case hn => rfl); (case hr => first | (go_simp; done) | (go_simp; rfl)); intro w5 hw; replace HB := Aside0.mk (show Below w.heap.size w w5 from by rw [hw]; exact below_set (below_set (below_set (below_set (HB.out) Ggo.out) Ggo.out) Ggo.out) Ggo.out); replace Bgt := Aside0.mk (show w5.heap[gt]? = some (.cells #[.int .i64 a0_0, .slice A0_1 l0_1.length c0_1, .slice A0_2 l0_2.length c0_2, .int .i64 a0_3] 25 (0, 0)) from by rw [hw]; exact blk_far (blk_far (blk_far (blk_far (Bgt.out) (p := ⟨go, 0, none⟩) Ngt_go.out _) (p := ⟨go, 1, none⟩) Ngt_go.out _) (p := ⟨go, 2, none⟩) Ngt_go.out _) (p := ⟨go, 3, none⟩) Ngt_go.out _); replace Bgr := Aside0.mk (show w5.heap[gr]? = some (.cells #[.int .i64 0, .slice none 0 0, .slice none 0 0, .int .i64 0] 25 (0, 0)) from by rw [hw]; exact blk_far (blk_far (blk_far (blk_far (Bgr.out) (p := ⟨go, 0, none⟩) Ngr_go.out _) (p := ⟨go, 1, none⟩) Ngr_go.out _) (p := ⟨go, 2, none⟩) Ngr_go.out _) (p := ⟨go, 3, none⟩) Ngr_go.out _); replace Bgo := Aside0.mk (show w5.heap[go]? = some (.cells #[.int .i64 o1, .slice (some ⟨g1, 0, none⟩) o2.length c1, .slice (some ⟨g2, 0, none⟩) o3.length c2, .int .i64 o4] 25 (0, 0)) from by rw [hw]; exact blk_put (cs := #[.int .i64 o1, .slice (some ⟨g1, 0, none⟩) o2.length c1, .slice (some ⟨g2, 0, none⟩) o3.length c2, .int .i64 0]) (cs' := #[.int .i64 o1, .slice (some ⟨g1, 0, none⟩) o2.length c1, .slice (some ⟨g2, 0, none⟩) o3.length c2, .int .i64 o4]) (blk_put (cs := #[.int .i64 o1, .slice (some ⟨g1, 0, none⟩) o2.length c1, .slice none 0 0, .int .i64 0]) (cs' := #[.int .i64 o1, .slice (some ⟨g1, 0, none⟩) o2.length c1, .slice (some ⟨g2, 0, none⟩) o3.length c2, .int .i64 0]) (blk_put (cs := #[.int .i64 o1, .slice none 0 0, .slice none 0 0, .int .i64 0]) (cs' := #[.int .i64 o1, .slice (some ⟨g1, 0, none⟩) o2.length c1, .slice none 0 0, .int .i64 0]) (blk_put (cs := #[.int .i64 0, .slice none 0 0, .slice none 0 0, .int .i64 0]) (cs' := #[.int .i64 o1, .slice none 0 0, .slice none 0 0, .int .i64 0]) (Bgo.out) 0 (.int .i64 o1) rfl) 1 (.slice (some ⟨g1, 0, none⟩) o2.length c1) rfl) 2 (.slice (some ⟨g2, 0, none⟩) o3.length c2) rfl) 3 (.int .i64 o4) rfl); replace TT := Aside0.mk (show Tb w.heap.size w5 g1 g2 c1 c2 o2.length o3.length o2 o3 from by rw [hw]; exact Tb.far (Tb.far (Tb.far (Tb.far (TT.out) ⟨go, 0, none⟩ (.int .i64 o1) M1go.out M2go.out) ⟨go, 1, none⟩ (.slice (some ⟨g1, 0, none⟩) o2.length c1) M1go.out M2go.out) ⟨go, 2, none⟩ (.slice (some ⟨g2, 0, none⟩) o3.length c2) M1go.out M2go.out) ⟨go, 3, none⟩ (.int .i64 o4) M1go.out M2go.out); clear hw; (try clear hzgt_0); (try clear hzgt_1); (try clear hzgt_2); (try clear hzgt_3); (try clear hfgt_0); (try clear hfgt_1); (try clear hfgt_2); (try clear hfgt_3); (try clear hzgr_0); (try clear hzgr_1); (try clear hzgr_2); (try clear hzgr_3); (try clear hfgr_0); (try clear hfgr_1); (try clear hfgr_2); (try clear hfgr_3); (try clear hzgo_0); (try clear hzgo_1); (try clear hzgo_2); (try clear hzgo_3); (try clear hfgo_0); (try clear hfgo_1); (try clear hfgo_2); (try clear hfgo_3)) | (go_at_call 66; refine (impl_Table_find.calls go g1 g2 c1 c2 o1 o4 o2 o3 a1 0 0 _ Bgo.out (Kd.R_reads' TT.out.1).2.2 (Kd.R_reads' TT.out.2.1).2.2 hF.out).mono ?_; rintro e w6 ⟨he, hb⟩; replace he := he.trans (show _ = Ending.returned (.pointer none) from rfl); subst he; replace HB := Aside0.mk (below_step HB.out hb); replace Bgt := Aside0.mk (blk_below Bgt.out hb); replace Bgr := Aside0.mk (blk_below Bgr.out hb); replace Bgo := Aside0.mk (blk_below Bgo.out hb); replace TT := Aside0.mk (TT.out.below hb); clear hb; (try clear hzgt_0); (try clear hzgt_1); (try clear hzgt_2); (try clear hzgt_3); (try clear hfgt_0); (try clear hfgt_1); (try clear hfgt_2); (try clear hfgt_3); (try clear hzgr_0); (try clear hzgr_1); (try clear hzgr_2); (try clear hzgr_3); (try clear hfgr_0); (try clear hfgr_1); (try clear hfgr_2); (try clear hfgr_3); (try clear hzgo_0); (try clear hzgo_1); (try clear hzgo_2); (try clear hzgo_3); (try clear hfgo_0); (try clear hfgo_1); (try clear hfgo_2); (try clear hfgo_3)) | ((with_reducible refine gate_dst (N := 11) rfl ?_); refine box_event ?hg (N := 11) ?hd (cs := #[.bool false, .int .i64 0, .int .i64 0]) (t := 79) ?hr ?_; (case hd => rfl); (case hg => rfl); (case hr => first | (go_simp; done) | (go_simp; rfl)); intro gc hg w7 hbox hb; have Ggc := Aside0.mk (show w.heap.size ≤ gc by rw [hg]; exact HB.out.size); have Ngt_gc := Aside0.mk (show gt ≠ gc by rw [hg]; exact Nat.ne_of_lt (blk_lt Bgt.out)); have Ngc_gt := Aside0.mk (show gc ≠ gt by rw [hg]; exact Nat.ne_of_gt (blk_lt Bgt.out)); have Ngr_gc := Aside0.mk (show gr ≠ gc by rw [hg]; exact Nat.ne_of_lt (blk_lt Bgr.out)); have Ngc_gr := Aside0.mk (show gc ≠ gr by rw [hg]; exact Nat.ne_of_gt (blk_lt Bgr.out)); have Ngo_gc := Aside0.mk (show go ≠ gc by rw [hg]; exact Nat.ne_of_lt (blk_lt Bgo.out)); have Ngc_go := Aside0.mk (show gc ≠ go by rw [hg]; exact Nat.ne_of_gt (blk_lt Bgo.out)); have M1gc := Aside0.mk (show g1 ≠ gc by rw [hg]; exact Nat.ne_of_lt TT.out.2.2.2.2.2.1); have M2gc := Aside0.mk (show g2 ≠ gc by rw [hg]; exact Nat.ne_of_lt TT.out.2.2.2.2.2.2); replace HB := Aside0.mk (below_step HB.out hb); replace Bgt := Aside0.mk (blk_below Bgt.out hb); replace Bgr := Aside0.mk (blk_below Bgr.out hb); replace Bgo := Aside0.mk (blk_below Bgo.out hb); replace TT := Aside0.mk (TT.out.below hb); have Bgc := Aside0.mk hbox; clear hb hbox hg; (try clear hzgt_0); (try clear hzgt_1); (try clear hzgt_2); (try clear hzgt_3); (try clear hfgt_0); (try clear hfgt_1); (try clear hfgt_2); (try clear hfgt_3); (try clear hzgr_0); (try clear hzgr_1); (try clear hzgr_2); (try clear hzgr_3); (try clear hfgr_0); (try clear hfgr_1); (try clear hfgr_2); (try clear hfgr_3); (try clear hzgo_0); (try clear hzgo_1); (try clear hzgo_2); (try clear hzgo_3); (try clear hfgo_0); (try clear hfgo_1); (try clear hfgo_2); (try clear hfgo_3); (try clear hzgc_0); (try clear hzgc_1); (try clear hzgc_2); (try clear hfgc_0); (try clear hfgc_1); (try clear hfgc_2); have hzgc_0 : w7.cell? ⟨gc, 0, none⟩ = some (.bool false) := (blk_cell Bgc.out 0).trans rfl; have hzgc_1 : w7.cell? ⟨gc, 1, none⟩ = some (.int .i64 0) := (blk_cell Bgc.out 1).trans rfl; have hzgc_2 : w7.cell? ⟨gc, 2, none⟩ = some (.int .i64 0) := (blk_cell Bgc.out 2).trans rfl; have hfgc_0 := blk_frozen Bgc.out 0; have hfgc_1 := blk_frozen Bgc.out 1; have hfgc_2 := blk_frozen Bgc.out 2))
  go_loopg [12] k (fun kq v12 w' => ∃ (x : Int) (cb : Bool) (ck cv : Int) (l1 l2 : List S79), v12 = .int .i64 x ∧ Aside0 (impl_put.l0 kq x a0_0 l1 l2 cb ck cv o1 o4 = some (r1, r2, r3, r4, r5, r6)) ∧ Aside0 (kq ≤ k) ∧ Aside0 (Below w.heap.size w w') ∧ Aside0 (Tb w.heap.size w' g1 g2 c1 c2 o2.length o3.length l1 l2) ∧ Aside0 (w'.heap[gt]? = some (.cells #[.int .i64 a0_0, .slice A0_1 l0_1.length c0_1, .slice A0_2 l0_2.length c0_2, .int .i64 a0_3] 25 (0, 0))) ∧ Aside0 (w'.heap[gr]? = some (.cells #[.int .i64 0, .slice none 0 0, .slice none 0 0, .int .i64 0] 25 (0, 0))) ∧ Aside0 (w'.heap[go]? = some (.cells #[.int .i64 o1, .slice (some ⟨g1, 0, none⟩) o2.length c1, .slice (some ⟨g2, 0, none⟩) o3.length c2, .int .i64 o4] 25 (0, 0))) ∧ Aside0 (w'.heap[gc]? = some (.cells #[.bool cb, .int .i64 ck, .int .i64 cv] 79 (0, 0))))
  case atStart => exact ⟨0, true, a1, a2, o2, o3, rfl, H, ⟨Nat.le_refl _⟩, ⟨below_set (below_set (below_set (HB.out) Ggc.out) Ggc.out) Ggc.out⟩, ⟨Tb.far (Tb.far (Tb.far (TT.out) ⟨gc, 0, none⟩ (.bool true) M1gc.out M2gc.out) ⟨gc, 1, none⟩ (.int .i64 a1) M1gc.out M2gc.out) ⟨gc, 2, none⟩ (.int .i64 a2) M1gc.out M2gc.out⟩, ⟨blk_far (blk_far (blk_far (Bgt.out) (p := ⟨gc, 0, none⟩) Ngt_gc.out _) (p := ⟨gc, 1, none⟩) Ngt_gc.out _) (p := ⟨gc, 2, none⟩) Ngt_gc.out _⟩, ⟨blk_far (blk_far (blk_far (Bgr.out) (p := ⟨gc, 0, none⟩) Ngr_gc.out _) (p := ⟨gc, 1, none⟩) Ngr_gc.out _) (p := ⟨gc, 2, none⟩) Ngr_gc.out _⟩, ⟨blk_far (blk_far (blk_far (Bgo.out) (p := ⟨gc, 0, none⟩) Ngo_gc.out _) (p := ⟨gc, 1, none⟩) Ngo_gc.out _) (p := ⟨gc, 2, none⟩) Ngo_gc.out _⟩, ⟨blk_put (cs := #[.bool true, .int .i64 a1, .int .i64 0]) (cs' := #[.bool true, .int .i64 a1, .int .i64 a2]) (blk_put (cs := #[.bool true, .int .i64 0, .int .i64 0]) (cs' := #[.bool true, .int .i64 a1, .int .i64 0]) (blk_put (cs := #[.bool false, .int .i64 0, .int .i64 0]) (cs' := #[.bool true, .int .i64 0, .int .i64 0]) (Bgc.out) 0 (.bool true) rfl) 1 (.int .i64 a1) rfl) 2 (.int .i64 a2) rfl⟩⟩
  case round =>
   clear H HB TT Bgt Bgr Bgo Bgc
   (try clear hF hO hr)
   obtain ⟨x, cb, ck, cv, l1, l2, rfl, HA, HK1, HB, TT, Bgt, Bgr, Bgo, Bgc⟩ := hrel
   cases gk with
   | zero => exact absurd HA.out (by simp [impl_put.l0])
   | succ k1 =>
    have H := HA.out
    clear HA
    simp only [impl_put.l0] at H
    by_cases hx : x ≤ 24
    ·rw [if_pos hx] at H
     have hxb : decide (x ≤ 24) = true := decide_eq_true hx
     obtain ⟨⟨p, q⟩, hp, H⟩ := Option.bind_eq_some_iff.mp H
     have hP := Aside0.mk hp
     clear hp
     by_cases hin : (0 ≤ p ∧ p < (l1.length : Int)) ∧ 0 ≤ q ∧ q < (l2.length : Int)
     ·simp only [if_pos hin] at H
      obtain ⟨⟨p0, p1⟩, q0, q1⟩ := hin
      have n1 := (Kd.R_reads' TT.out.1).1
      have n2 := (Kd.R_reads' TT.out.2.1).1
      rw [← n1] at p1
      rw [← n2] at q1
      clear n1 n2
      have zt0 : wr.cell? ⟨gt, 0, none⟩ = some (.int .i64 a0_0) := (blk_cell Bgt.out 0).trans rfl
      have zg1 : wr.cell? ⟨go, 1, none⟩ = some (.slice (some ⟨g1, 0, none⟩) o2.length c1) := (blk_cell Bgo.out 1).trans rfl
      have zg2 : wr.cell? ⟨go, 2, none⟩ = some (.slice (some ⟨g2, 0, none⟩) o3.length c2) := (blk_cell Bgo.out 2).trans rfl
      have zc0 : wr.cell? ⟨gc, 0, none⟩ = some (.bool cb) := (blk_cell Bgc.out 0).trans rfl
      have zc1 : wr.cell? ⟨gc, 1, none⟩ = some (.int .i64 ck) := (blk_cell Bgc.out 1).trans rfl
      have zc2 : wr.cell? ⟨gc, 2, none⟩ = some (.int .i64 cv) := (blk_cell Bgc.out 2).trans rfl
      have yc0 := blk_frozen Bgc.out 0
      have yc1 := blk_frozen Bgc.out 1
      have yc2 := blk_frozen Bgc.out 2
      by_cases hm : Int.tmod x 2 = 1
      ·rw [if_pos hm] at H
       have hmb : (Int.tmod x 2 == 1) = true := beq_iff_eq.mpr hm
       obtain ⟨⟨hx0, hx1, hx2⟩, hy0, hy1, hy2⟩ := row_open TT.out.2.1 q q0 q1
       generalize (rd_T79 l2 q).f0 = fb at H hx0
       generalize (rd_T79 l2 q).f1 = fk at H hx1
       generalize (rd_T79 l2 q).f2 = fv at H hx2
       have HH := Aside0.mk H
       clear H
       go_wp2_with (first | (go_at_call 71; (refine (impl_placesOf.calls a0_0 ck p q _ hP.out).mono ?_); rintro e w1 ⟨rfl, ⟨nd, rfl⟩⟩))
       have v0 : (wr.drewN nd).cell? ⟨g2, q.toNat * 3, none⟩ = some (.bool fb) := hx0
       have v1 : (wr.drewN nd).cell? ⟨g2, q.toNat * 3 + 1, none⟩ = some (.int .i64 fk) := hx1
       have v2 : (wr.drewN nd).cell? ⟨g2, q.toNat * 3 + 2, none⟩ = some (.int .i64 fv) := hx2
       have v3 : (wr.drewN nd).cell? ⟨gc, 0, none⟩ = some (.bool cb) := zc0
       have v4 : (wr.drewN nd).cell? ⟨gc, 1, none⟩ = some (.int .i64 ck) := zc1
       have v5 : (wr.drewN nd).cell? ⟨gc, 2, none⟩ = some (.int .i64 cv) := zc2
       have mm1 := M2gc.out
       have mm2 := M2gc.out.symm
       go_region
       obtain ⟨w9, hw9⟩ : ∃ w9 : World, w9 = set3 ((((wr.drewN (nd + 1)).setCell ⟨gc, 0, none⟩ (.bool fb)).setCell ⟨gc, 1, none⟩ (.int .i64 fk)).setCell ⟨gc, 2, none⟩ (.int .i64 fv)) g2 (q.toNat * 3) (⟨cb, ck, cv⟩ : S79) := ⟨_, rfl⟩
       have DB := pw_below_drewN (Below.refl wr.heap.size wr) (nd + 1)
       have HB9 := Aside0.mk (show Below w.heap.size w w9 from by rw [hw9]; exact below_set3 (below_set (below_set (below_set (below_step HB.out DB) Ggc.out) Ggc.out) Ggc.out) TT.out.2.2.2.2.1)
       have TT9 := Aside0.mk (show Tb w.heap.size w9 g1 g2 c1 c2 o2.length o3.length l1 (l2.set q.toNat ⟨cb, ck, cv⟩) from by rw [hw9]; exact (Tb.far (Tb.far (Tb.far (TT.out.below DB) ⟨gc, 0, none⟩ (.bool fb) M1gc.out M2gc.out) ⟨gc, 1, none⟩ (.int .i64 fk) M1gc.out M2gc.out) ⟨gc, 2, none⟩ (.int .i64 fv) M1gc.out M2gc.out).put2 q q0 q1 (⟨cb, ck, cv⟩ : S79))
       have B9gt := Aside0.mk (show w9.heap[gt]? = some (.cells #[.int .i64 a0_0, .slice A0_1 l0_1.length c0_1, .slice A0_2 l0_2.length c0_2, .int .i64 a0_3] 25 (0, 0)) from by rw [hw9]; exact blk_set3 (blk_far (blk_far (blk_far (blk_below Bgt.out DB) (p := ⟨gc, 0, none⟩) Ngt_gc.out _) (p := ⟨gc, 1, none⟩) Ngt_gc.out _) (p := ⟨gc, 2, none⟩) Ngt_gc.out _) M2gt.out.symm _)
       have B9gr := Aside0.mk (show w9.heap[gr]? = some (.cells #[.int .i64 0, .slice none 0 0, .slice none 0 0, .int .i64 0] 25 (0, 0)) from by rw [hw9]; exact blk_set3 (blk_far (blk_far (blk_far (blk_below Bgr.out DB) (p := ⟨gc, 0, none⟩) Ngr_gc.out _) (p := ⟨gc, 1, none⟩) Ngr_gc.out _) (p := ⟨gc, 2, none⟩) Ngr_gc.out _) M2gr.out.symm _)
       have B9go := Aside0.mk (show w9.heap[go]? = some (.cells #[.int .i64 o1, .slice (some ⟨g1, 0, none⟩) o2.length c1, .slice (some ⟨g2, 0, none⟩) o3.length c2, .int .i64 o4] 25 (0, 0)) from by rw [hw9]; exact blk_set3 (blk_far (blk_far (blk_far (blk_below Bgo.out DB) (p := ⟨gc, 0, none⟩) Ngo_gc.out _) (p := ⟨gc, 1, none⟩) Ngo_gc.out _) (p := ⟨gc, 2, none⟩) Ngo_gc.out _) M2go.out.symm _)
       have B9gc := Aside0.mk (show w9.heap[gc]? = some (.cells #[.bool fb, .int .i64 fk, .int .i64 fv] 79 (0, 0)) from by rw [hw9]; exact blk_set3 (blk_put (cs := #[.bool fb, .int .i64 fk, .int .i64 cv]) (cs' := #[.bool fb, .int .i64 fk, .int .i64 fv]) (blk_put (cs := #[.bool fb, .int .i64 ck, .int .i64 cv]) (cs' := #[.bool fb, .int .i64 fk, .int .i64 cv]) (blk_put (cs := #[.bool cb, .int .i64 ck, .int .i64 cv]) (cs' := #[.bool fb, .int .i64 ck, .int .i64 cv]) (blk_below Bgc.out DB) 0 (.bool fb) rfl) 1 (.int .i64 fk) rfl) 2 (.int .i64 fv) rfl) M2gc.out.symm _)
       show Exit.then _ _ Exit.normal _ (set3 ((((wr.drewN (nd + 1)).setCell ⟨gc, 0, none⟩ (.bool fb)).setCell ⟨gc, 1, none⟩ (.int .i64 fk)).setCell ⟨gc, 2, none⟩ (.int .i64 fv)) g2 (q.toNat * 3) (⟨cb, ck, cv⟩ : S79))
       rw [← hw9]
       clear hw9 DB HB TT Bgt Bgr Bgo Bgc hx0 hx1 hx2 hy0 hy1 hy2 zt0 zg1 zg2 zc0 zc1 zc2 yc0 yc1 yc2 v0 v1 v2 v3 v4 v5 mm1 mm2
       have HB := HB9
       have TT := TT9
       have Bgt := B9gt
       have Bgr := B9gr
       have Bgo := B9go
       have Bgc := B9gc
       clear HB9 TT9 B9gt B9gr B9go B9gc
       have zc0 : w9.cell? ⟨gc, 0, none⟩ = some (.bool fb) := (blk_cell Bgc.out 0).trans rfl
       cases fb with
       | true =>
        have H := HH.out
        simp only [if_true] at H
        have H' := Aside0.mk H
        clear H HH
        go_wp2
        go_roundg k1
        case measure => have := HK1.out; omega
        case rel => exact ⟨_, _, _, _, _, _, rfl, H', ⟨by have := HK1.out; omega⟩, HB, TT, Bgt, Bgr, Bgo, Bgc⟩
       | false =>
        have H := HH.out
        simp only [Bool.false_eq_true, if_false, Option.some.injEq, Prod.mk.injEq] at H
        obtain ⟨rfl, rfl, rfl, rfl, rfl, rfl⟩ := H
        clear HH
        have hzgo_0 : w9.cell? ⟨go, 0, none⟩ = some (.int .i64 o1) := (blk_cell Bgo.out 0).trans rfl
        have hzgo_1 : w9.cell? ⟨go, 1, none⟩ = some (.slice (some ⟨g1, 0, none⟩) o2.length c1) := (blk_cell Bgo.out 1).trans rfl
        have hzgo_2 : w9.cell? ⟨go, 2, none⟩ = some (.slice (some ⟨g2, 0, none⟩) o3.length c2) := (blk_cell Bgo.out 2).trans rfl
        have hzgo_3 : w9.cell? ⟨go, 3, none⟩ = some (.int .i64 o4) := (blk_cell Bgo.out 3).trans rfl
        have hfgo_0 := blk_frozen Bgo.out 0
        have hfgo_1 := blk_frozen Bgo.out 1
        have hfgo_2 := blk_frozen Bgo.out 2
        have hfgo_3 := blk_frozen Bgo.out 3
        go_wp2_with (first | ((with_reducible refine gate_store (t := 3) (p := 65) rfl ?_); refine store_event (t := 3) (p := 65) (v := ?vo_w21) (w1 := (w9.setCell ⟨go, 3, none⟩ (.int .i64 (wrap64 (o4 + 1))))) ?hg ?ho ?hn ?hr ?_; (case ho => rfl); (case hg => rfl); (case hn => rfl); (case hr => first | (go_simp; done) | (go_simp; rfl)); intro w21 hw; replace HB := Aside0.mk (show Below w.heap.size w w21 from by rw [hw]; exact below_set (HB.out) Ggo.out); replace Bgt := Aside0.mk (show w21.heap[gt]? = some (.cells #[.int .i64 a0_0, .slice A0_1 l0_1.length c0_1, .slice A0_2 l0_2.length c0_2, .int .i64 a0_3] 25 (0, 0)) from by rw [hw]; exact blk_far (Bgt.out) (p := ⟨go, 3, none⟩) Ngt_go.out _); replace Bgr := Aside0.mk (show w21.heap[gr]? = some (.cells #[.int .i64 0, .slice none 0 0, .slice none 0 0, .int .i64 0] 25 (0, 0)) from by rw [hw]; exact blk_far (Bgr.out) (p := ⟨go, 3, none⟩) Ngr_go.out _); replace Bgo := Aside0.mk (show w21.heap[go]? = some (.cells #[.int .i64 o1, .slice (some ⟨g1, 0, none⟩) o2.length c1, .slice (some ⟨g2, 0, none⟩) o3.length c2, .int .i64 (wrap64 (o4 + 1))] 25 (0, 0)) from by rw [hw]; exact blk_put (cs := #[.int .i64 o1, .slice (some ⟨g1, 0, none⟩) o2.length c1, .slice (some ⟨g2, 0, none⟩) o3.length c2, .int .i64 o4]) (cs' := #[.int .i64 o1, .slice (some ⟨g1, 0, none⟩) o2.length c1, .slice (some ⟨g2, 0, none⟩) o3.length c2, .int .i64 (wrap64 (o4 + 1))]) (Bgo.out) 3 (.int .i64 (wrap64 (o4 + 1))) rfl); replace Bgc := Aside0.mk (show w21.heap[gc]? = some (.cells #[.bool false, .int .i64 fk, .int .i64 fv] 79 (0, 0)) from by rw [hw]; exact blk_far (Bgc.out) (p := ⟨go, 3, none⟩) Ngc_go.out _); replace TT := Aside0.mk (show Tb w.heap.size w21 g1 g2 c1 c2 o2.length o3.length l1 (l2.set q.toNat ⟨cb, ck, cv⟩) from by rw [hw]; exact Tb.far (TT.out) ⟨go, 3, none⟩ (.int .i64 (wrap64 (o4 + 1))) M1go.out M2go.out); clear hw; (try clear hzgt_0); (try clear hzgt_1); (try clear hzgt_2); (try clear hzgt_3); (try clear hfgt_0); (try clear hfgt_1); (try clear hfgt_2); (try clear hfgt_3); (try clear hzgr_0); (try clear hzgr_1); (try clear hzgr_2); (try clear hzgr_3); (try clear hfgr_0); (try clear hfgr_1); (try clear hfgr_2); (try clear hfgr_3); have hzgr_0 : w21.cell? ⟨gr, 0, none⟩ = some (.int .i64 0) := (blk_cell Bgr.out 0).trans rfl; have hzgr_1 : w21.cell? ⟨gr, 1, none⟩ = some (.slice none 0 0) := (blk_cell Bgr.out 1).trans rfl; have hzgr_2 : w21.cell? ⟨gr, 2, none⟩ = some (.slice none 0 0) := (blk_cell Bgr.out 2).trans rfl; have hzgr_3 : w21.cell? ⟨gr, 3, none⟩ = some (.int .i64 0) := (blk_cell Bgr.out 3).trans rfl; have hfgr_0 := blk_frozen Bgr.out 0; have hfgr_1 := blk_frozen Bgr.out 1; have hfgr_2 := blk_frozen Bgr.out 2; have hfgr_3 := blk_frozen Bgr.out 3; (try clear hzgo_0); (try clear hzgo_1); (try clear hzgo_2); (try clear hzgo_3); (try clear hfgo_0); (try clear hfgo_1); (try clear hfgo_2); (try clear hfgo_3); have hzgo_0 : w21.cell? ⟨go, 0, none⟩ = some (.int .i64 o1) := (blk_cell Bgo.out 0).trans rfl; have hzgo_1 : w21.cell? ⟨go, 1, none⟩ = some (.slice (some ⟨g1, 0, none⟩) o2.length c1) := (blk_cell Bgo.out 1).trans rfl; have hzgo_2 : w21.cell? ⟨go, 2, none⟩ = some (.slice (some ⟨g2, 0, none⟩) o3.length c2) := (blk_cell Bgo.out 2).trans rfl; have hzgo_3 : w21.cell? ⟨go, 3, none⟩ = some (.int .i64 (wrap64 (o4 + 1))) := (blk_cell Bgo.out 3).trans rfl; have hfgo_0 := blk_frozen Bgo.out 0; have hfgo_1 := blk_frozen Bgo.out 1; have hfgo_2 := blk_frozen Bgo.out 2; have hfgo_3 := blk_frozen Bgo.out 3; (try clear hzgc_0); (try clear hzgc_1); (try clear hzgc_2); (try clear hfgc_0); (try clear hfgc_1); (try clear hfgc_2)) | ((with_reducible refine gate_store (t := 25) (p := 6) rfl ?_); refine store_event (t := 25) (p := 6) (v := ?vo_w22) (w1 := ((((w21.setCell ⟨gr, 0, none⟩ (.int .i64 o1)).setCell ⟨gr, 1, none⟩ (.slice (some ⟨g1, 0, none⟩) o2.length c1)).setCell ⟨gr, 2, none⟩ (.slice (some ⟨g2, 0, none⟩) o3.length c2)).setCell ⟨gr, 3, none⟩ (.int .i64 (wrap64 (o4 + 1))))) ?hg ?ho ?hn ?hr ?_; (case ho => rfl); (case hg => rfl); (case hn => rfl); (case hr => first | (go_simp; done) | (go_simp; rfl)); intro w22 hw; replace HB := Aside0.mk (show Below w.heap.size w w22 from by rw [hw]; exact below_set (below_set (below_set (below_set (HB.out) Ggr.out) Ggr.out) Ggr.out) Ggr.out); replace Bgt := Aside0.mk (show w22.heap[gt]? = some (.cells #[.int .i64 a0_0, .slice A0_1 l0_1.length c0_1, .slice A0_2 l0_2.length c0_2, .int .i64 a0_3] 25 (0, 0)) from by rw [hw]; exact blk_far (blk_far (blk_far (blk_far (Bgt.out) (p := ⟨gr, 0, none⟩) Ngt_gr.out _) (p := ⟨gr, 1, none⟩) Ngt_gr.out _) (p := ⟨gr, 2, none⟩) Ngt_gr.out _) (p := ⟨gr, 3, none⟩) Ngt_gr.out _); replace Bgr := Aside0.mk (show w22.heap[gr]? = some (.cells #[.int .i64 o1, .slice (some ⟨g1, 0, none⟩) o2.length c1, .slice (some ⟨g2, 0, none⟩) o3.length c2, .int .i64 (wrap64 (o4 + 1))] 25 (0, 0)) from by rw [hw]; exact blk_put (cs := #[.int .i64 o1, .slice (some ⟨g1, 0, none⟩) o2.length c1, .slice (some ⟨g2, 0, none⟩) o3.length c2, .int .i64 0]) (cs' := #[.int .i64 o1, .slice (some ⟨g1, 0, none⟩) o2.length c1, .slice (some ⟨g2, 0, none⟩) o3.length c2, .int .i64 (wrap64 (o4 + 1))]) (blk_put (cs := #[.int .i64 o1, .slice (some ⟨g1, 0, none⟩) o2.length c1, .slice none 0 0, .int .i64 0]) (cs' := #[.int .i64 o1, .slice (some ⟨g1, 0, none⟩) o2.length c1, .slice (some ⟨g2, 0, none⟩) o3.length c2, .int .i64 0]) (blk_put (cs := #[.int .i64 o1, .slice none 0 0, .slice none 0 0, .int .i64 0]) (cs' := #[.int .i64 o1, .slice (some ⟨g1, 0, none⟩) o2.length c1, .slice none 0 0, .int .i64 0]) (blk_put (cs := #[.int .i64 0, .slice none 0 0, .slice none 0 0, .int .i64 0]) (cs' := #[.int .i64 o1, .slice none 0 0, .slice none 0 0, .int .i64 0]) (Bgr.out) 0 (.int .i64 o1) rfl) 1 (.slice (some ⟨g1, 0, none⟩) o2.length c1) rfl) 2 (.slice (some ⟨g2, 0, none⟩) o3.length c2) rfl) 3 (.int .i64 (wrap64 (o4 + 1))) rfl); replace Bgo := Aside0.mk (show w22.heap[go]? = some (.cells #[.int .i64 o1, .slice (some ⟨g1, 0, none⟩) o2.length c1, .slice (some ⟨g2, 0, none⟩) o3.length c2, .int .i64 (wrap64 (o4 + 1))] 25 (0, 0)) from by rw [hw]; exact blk_far (blk_far (blk_far (blk_far (Bgo.out) (p := ⟨gr, 0, none⟩) Ngo_gr.out _) (p := ⟨gr, 1, none⟩) Ngo_gr.out _) (p := ⟨gr, 2, none⟩) Ngo_gr.out _) (p := ⟨gr, 3, none⟩) Ngo_gr.out _); replace Bgc := Aside0.mk (show w22.heap[gc]? = some (.cells #[.bool false, .int .i64 fk, .int .i64 fv] 79 (0, 0)) from by rw [hw]; exact blk_far (blk_far (blk_far (blk_far (Bgc.out) (p := ⟨gr, 0, none⟩) Ngc_gr.out _) (p := ⟨gr, 1, none⟩) Ngc_gr.out _) (p := ⟨gr, 2, none⟩) Ngc_gr.out _) (p := ⟨gr, 3, none⟩) Ngc_gr.out _); replace TT := Aside0.mk (show Tb w.heap.size w22 g1 g2 c1 c2 o2.length o3.length l1 (l2.set q.toNat ⟨cb, ck, cv⟩) from by rw [hw]; exact Tb.far (Tb.far (Tb.far (Tb.far (TT.out) ⟨gr, 0, none⟩ (.int .i64 o1) M1gr.out M2gr.out) ⟨gr, 1, none⟩ (.slice (some ⟨g1, 0, none⟩) o2.length c1) M1gr.out M2gr.out) ⟨gr, 2, none⟩ (.slice (some ⟨g2, 0, none⟩) o3.length c2) M1gr.out M2gr.out) ⟨gr, 3, none⟩ (.int .i64 (wrap64 (o4 + 1))) M1gr.out M2gr.out); clear hw; (try clear hzgt_0); (try clear hzgt_1); (try clear hzgt_2); (try clear hzgt_3); (try clear hfgt_0); (try clear hfgt_1); (try clear hfgt_2); (try clear hfgt_3); (try clear hzgr_0); (try clear hzgr_1); (try clear hzgr_2); (try clear hzgr_3); (try clear hfgr_0); (try clear hfgr_1); (try clear hfgr_2); (try clear hfgr_3); (try clear hzgo_0); (try clear hzgo_1); (try clear hzgo_2); (try clear hzgo_3); (try clear hfgo_0); (try clear hfgo_1); (try clear hfgo_2); (try clear hfgo_3); (try clear hzgc_0); (try clear hzgc_1); (try clear hzgc_2); (try clear hfgc_0); (try clear hfgc_1); (try clear hfgc_2)))
        refine bodyPost_ret (results_ctt rfl _ _ gr 25 #[.int .i64 o1, .slice (some ⟨g1, 0, none⟩) o2.length c1, .slice (some ⟨g2, 0, none⟩) o3.length c2, .int .i64 (wrap64 (o4 + 1))] (0, 0) _ rfl Bgr.out Try.underlying25 rfl (by kernel_rfl)) rfl ?_
        exact ⟨_, _, rfl, TT.out.back.1, TT.out.back.2, HB.out⟩
      ·rw [if_neg hm] at H
       have hmb : (Int.tmod x 2 == 1) = false := by simpa using hm
       obtain ⟨⟨hx0, hx1, hx2⟩, hy0, hy1, hy2⟩ := row_open TT.out.1 p p0 p1
       generalize (rd_T79 l1 p).f0 = fb at H hx0
       generalize (rd_T79 l1 p).f1 = fk at H hx1
       generalize (rd_T79 l1 p).f2 = fv at H hx2
       have HH := Aside0.mk H
       clear H
       go_wp2_with (first | (go_at_call 71; (refine (impl_placesOf.calls a0_0 ck p q _ hP.out).mono ?_); rintro e w1 ⟨rfl, ⟨nd, rfl⟩⟩))
       have v0 : (wr.drewN nd).cell? ⟨g1, p.toNat * 3, none⟩ = some (.bool fb) := hx0
       have v1 : (wr.drewN nd).cell? ⟨g1, p.toNat * 3 + 1, none⟩ = some (.int .i64 fk) := hx1
       have v2 : (wr.drewN nd).cell? ⟨g1, p.toNat * 3 + 2, none⟩ = some (.int .i64 fv) := hx2
       have v3 : (wr.drewN nd).cell? ⟨gc, 0, none⟩ = some (.bool cb) := zc0
       have v4 : (wr.drewN nd).cell? ⟨gc, 1, none⟩ = some (.int .i64 ck) := zc1
       have v5 : (wr.drewN nd).cell? ⟨gc, 2, none⟩ = some (.int .i64 cv) := zc2
       have mm1 := M1gc.out
       have mm2 := M1gc.out.symm
       go_region
       obtain ⟨w9, hw9⟩ : ∃ w9 : World, w9 = set3 ((((wr.drewN (nd + 1)).setCell ⟨gc, 0, none⟩ (.bool fb)).setCell ⟨gc, 1, none⟩ (.int .i64 fk)).setCell ⟨gc, 2, none⟩ (.int .i64 fv)) g1 (p.toNat * 3) (⟨cb, ck, cv⟩ : S79) := ⟨_, rfl⟩
       have DB := pw_below_drewN (Below.refl wr.heap.size wr) (nd + 1)
       have HB9 := Aside0.mk (show Below w.heap.size w w9 from by rw [hw9]; exact below_set3 (below_set (below_set (below_set (below_step HB.out DB) Ggc.out) Ggc.out) Ggc.out) TT.out.2.2.2.1)
       have TT9 := Aside0.mk (show Tb w.heap.size w9 g1 g2 c1 c2 o2.length o3.length (l1.set p.toNat ⟨cb, ck, cv⟩) l2 from by rw [hw9]; exact (Tb.far (Tb.far (Tb.far (TT.out.below DB) ⟨gc, 0, none⟩ (.bool fb) M1gc.out M2gc.out) ⟨gc, 1, none⟩ (.int .i64 fk) M1gc.out M2gc.out) ⟨gc, 2, none⟩ (.int .i64 fv) M1gc.out M2gc.out).put1 p p0 p1 (⟨cb, ck, cv⟩ : S79))
       have B9gt := Aside0.mk (show w9.heap[gt]? = some (.cells #[.int .i64 a0_0, .slice A0_1 l0_1.length c0_1, .slice A0_2 l0_2.length c0_2, .int .i64 a0_3] 25 (0, 0)) from by rw [hw9]; exact blk_set3 (blk_far (blk_far (blk_far (blk_below Bgt.out DB) (p := ⟨gc, 0, none⟩) Ngt_gc.out _) (p := ⟨gc, 1, none⟩) Ngt_gc.out _) (p := ⟨gc, 2, none⟩) Ngt_gc.out _) M1gt.out.symm _)
       have B9gr := Aside0.mk (show w9.heap[gr]? = some (.cells #[.int .i64 0, .slice none 0 0, .slice none 0 0, .int .i64 0] 25 (0, 0)) from by rw [hw9]; exact blk_set3 (blk_far (blk_far (blk_far (blk_below Bgr.out DB) (p := ⟨gc, 0, none⟩) Ngr_gc.out _) (p := ⟨gc, 1, none⟩) Ngr_gc.out _) (p := ⟨gc, 2, none⟩) Ngr_gc.out _) M1gr.out.symm _)
       have B9go := Aside0.mk (show w9.heap[go]? = some (.cells #[.int .i64 o1, .slice (some ⟨g1, 0, none⟩) o2.length c1, .slice (some ⟨g2, 0, none⟩) o3.length c2, .int .i64 o4] 25 (0, 0)) from by rw [hw9]; exact blk_set3 (blk_far (blk_far (blk_far (blk_below Bgo.out DB) (p := ⟨gc, 0, none⟩) Ngo_gc.out _) (p := ⟨gc, 1, none⟩) Ngo_gc.out _) (p := ⟨gc, 2, none⟩) Ngo_gc.out _) M1go.out.symm _)
       have B9gc := Aside0.mk (show w9.heap[gc]? = some (.cells #[.bool fb, .int .i64 fk, .int .i64 fv] 79 (0, 0)) from by rw [hw9]; exact blk_set3 (blk_put (cs := #[.bool fb, .int .i64 fk, .int .i64 cv]) (cs' := #[.bool fb, .int .i64 fk, .int .i64 fv]) (blk_put (cs := #[.bool fb, .int .i64 ck, .int .i64 cv]) (cs' := #[.bool fb, .int .i64 fk, .int .i64 cv]) (blk_put (cs := #[.bool cb, .int .i64 ck, .int .i64 cv]) (cs' := #[.bool fb, .int .i64 ck, .int .i64 cv]) (blk_below Bgc.out DB) 0 (.bool fb) rfl) 1 (.int .i64 fk) rfl) 2 (.int .i64 fv) rfl) M1gc.out.symm _)
       show Exit.then _ _ Exit.normal _ (set3 ((((wr.drewN (nd + 1)).setCell ⟨gc, 0, none⟩ (.bool fb)).setCell ⟨gc, 1, none⟩ (.int .i64 fk)).setCell ⟨gc, 2, none⟩ (.int .i64 fv)) g1 (p.toNat * 3) (⟨cb, ck, cv⟩ : S79))
       rw [← hw9]
       clear hw9 DB HB TT Bgt Bgr Bgo Bgc hx0 hx1 hx2 hy0 hy1 hy2 zt0 zg1 zg2 zc0 zc1 zc2 yc0 yc1 yc2 v0 v1 v2 v3 v4 v5 mm1 mm2
       have HB := HB9
       have TT := TT9
       have Bgt := B9gt
       have Bgr := B9gr
       have Bgo := B9go
       have Bgc := B9gc
       clear HB9 TT9 B9gt B9gr B9go B9gc
       have zc0 : w9.cell? ⟨gc, 0, none⟩ = some (.bool fb) := (blk_cell Bgc.out 0).trans rfl
       cases fb with
       | true =>
        have H := HH.out
        simp only [if_true] at H
        have H' := Aside0.mk H
        clear H HH
        go_wp2
        go_roundg k1
        case measure => have := HK1.out; omega
        case rel => exact ⟨_, _, _, _, _, _, rfl, H', ⟨by have := HK1.out; omega⟩, HB, TT, Bgt, Bgr, Bgo, Bgc⟩
       | false =>
        have H := HH.out
        simp only [Bool.false_eq_true, if_false, Option.some.injEq, Prod.mk.injEq] at H
        obtain ⟨rfl, rfl, rfl, rfl, rfl, rfl⟩ := H
        clear HH
        have hzgo_0 : w9.cell? ⟨go, 0, none⟩ = some (.int .i64 o1) := (blk_cell Bgo.out 0).trans rfl
        have hzgo_1 : w9.cell? ⟨go, 1, none⟩ = some (.slice (some ⟨g1, 0, none⟩) o2.length c1) := (blk_cell Bgo.out 1).trans rfl
        have hzgo_2 : w9.cell? ⟨go, 2, none⟩ = some (.slice (some ⟨g2, 0, none⟩) o3.length c2) := (blk_cell Bgo.out 2).trans rfl
        have hzgo_3 : w9.cell? ⟨go, 3, none⟩ = some (.int .i64 o4) := (blk_cell Bgo.out 3).trans rfl
        have hfgo_0 := blk_frozen Bgo.out 0
        have hfgo_1 := blk_frozen Bgo.out 1
        have hfgo_2 := blk_frozen Bgo.out 2
        have hfgo_3 := blk_frozen Bgo.out 3
        go_wp2_with (first | ((with_reducible refine gate_store (t := 3) (p := 65) rfl ?_); refine store_event (t := 3) (p := 65) (v := ?vo_w21) (w1 := (w9.setCell ⟨go, 3, none⟩ (.int .i64 (wrap64 (o4 + 1))))) ?hg ?ho ?hn ?hr ?_; (case ho => rfl); (case hg => rfl); (case hn => rfl); (case hr => first | (go_simp; done) | (go_simp; rfl)); intro w21 hw; replace HB := Aside0.mk (show Below w.heap.size w w21 from by rw [hw]; exact below_set (HB.out) Ggo.out); replace Bgt := Aside0.mk (show w21.heap[gt]? = some (.cells #[.int .i64 a0_0, .slice A0_1 l0_1.length c0_1, .slice A0_2 l0_2.length c0_2, .int .i64 a0_3] 25 (0, 0)) from by rw [hw]; exact blk_far (Bgt.out) (p := ⟨go, 3, none⟩) Ngt_go.out _); replace Bgr := Aside0.mk (show w21.heap[gr]? = some (.cells #[.int .i64 0, .slice none 0 0, .slice none 0 0, .int .i64 0] 25 (0, 0)) from by rw [hw]; exact blk_far (Bgr.out) (p := ⟨go, 3, none⟩) Ngr_go.out _); replace Bgo := Aside0.mk (show w21.heap[go]? = some (.cells #[.int .i64 o1, .slice (some ⟨g1, 0, none⟩) o2.length c1, .slice (some ⟨g2, 0, none⟩) o3.length c2, .int .i64 (wrap64 (o4 + 1))] 25 (0, 0)) from by rw [hw]; exact blk_put (cs := #[.int .i64 o1, .slice (some ⟨g1, 0, none⟩) o2.length c1, .slice (some ⟨g2, 0, none⟩) o3.length c2, .int .i64 o4]) (cs' := #[.int .i64 o1, .slice (some ⟨g1, 0, none⟩) o2.length c1, .slice (some ⟨g2, 0, none⟩) o3.length c2, .int .i64 (wrap64 (o4 + 1))]) (Bgo.out) 3 (.int .i64 (wrap64 (o4 + 1))) rfl); replace Bgc := Aside0.mk (show w21.heap[gc]? = some (.cells #[.bool false, .int .i64 fk, .int .i64 fv] 79 (0, 0)) from by rw [hw]; exact blk_far (Bgc.out) (p := ⟨go, 3, none⟩) Ngc_go.out _); replace TT := Aside0.mk (show Tb w.heap.size w21 g1 g2 c1 c2 o2.length o3.length (l1.set p.toNat ⟨cb, ck, cv⟩) l2 from by rw [hw]; exact Tb.far (TT.out) ⟨go, 3, none⟩ (.int .i64 (wrap64 (o4 + 1))) M1go.out M2go.out); clear hw; (try clear hzgt_0); (try clear hzgt_1); (try clear hzgt_2); (try clear hzgt_3); (try clear hfgt_0); (try clear hfgt_1); (try clear hfgt_2); (try clear hfgt_3); (try clear hzgr_0); (try clear hzgr_1); (try clear hzgr_2); (try clear hzgr_3); (try clear hfgr_0); (try clear hfgr_1); (try clear hfgr_2); (try clear hfgr_3); have hzgr_0 : w21.cell? ⟨gr, 0, none⟩ = some (.int .i64 0) := (blk_cell Bgr.out 0).trans rfl; have hzgr_1 : w21.cell? ⟨gr, 1, none⟩ = some (.slice none 0 0) := (blk_cell Bgr.out 1).trans rfl; have hzgr_2 : w21.cell? ⟨gr, 2, none⟩ = some (.slice none 0 0) := (blk_cell Bgr.out 2).trans rfl; have hzgr_3 : w21.cell? ⟨gr, 3, none⟩ = some (.int .i64 0) := (blk_cell Bgr.out 3).trans rfl; have hfgr_0 := blk_frozen Bgr.out 0; have hfgr_1 := blk_frozen Bgr.out 1; have hfgr_2 := blk_frozen Bgr.out 2; have hfgr_3 := blk_frozen Bgr.out 3; (try clear hzgo_0); (try clear hzgo_1); (try clear hzgo_2); (try clear hzgo_3); (try clear hfgo_0); (try clear hfgo_1); (try clear hfgo_2); (try clear hfgo_3); have hzgo_0 : w21.cell? ⟨go, 0, none⟩ = some (.int .i64 o1) := (blk_cell Bgo.out 0).trans rfl; have hzgo_1 : w21.cell? ⟨go, 1, none⟩ = some (.slice (some ⟨g1, 0, none⟩) o2.length c1) := (blk_cell Bgo.out 1).trans rfl; have hzgo_2 : w21.cell? ⟨go, 2, none⟩ = some (.slice (some ⟨g2, 0, none⟩) o3.length c2) := (blk_cell Bgo.out 2).trans rfl; have hzgo_3 : w21.cell? ⟨go, 3, none⟩ = some (.int .i64 (wrap64 (o4 + 1))) := (blk_cell Bgo.out 3).trans rfl; have hfgo_0 := blk_frozen Bgo.out 0; have hfgo_1 := blk_frozen Bgo.out 1; have hfgo_2 := blk_frozen Bgo.out 2; have hfgo_3 := blk_frozen Bgo.out 3; (try clear hzgc_0); (try clear hzgc_1); (try clear hzgc_2); (try clear hfgc_0); (try clear hfgc_1); (try clear hfgc_2)) | ((with_reducible refine gate_store (t := 25) (p := 6) rfl ?_); refine store_event (t := 25) (p := 6) (v := ?vo_w22) (w1 := ((((w21.setCell ⟨gr, 0, none⟩ (.int .i64 o1)).setCell ⟨gr, 1, none⟩ (.slice (some ⟨g1, 0, none⟩) o2.length c1)).setCell ⟨gr, 2, none⟩ (.slice (some ⟨g2, 0, none⟩) o3.length c2)).setCell ⟨gr, 3, none⟩ (.int .i64 (wrap64 (o4 + 1))))) ?hg ?ho ?hn ?hr ?_; (case ho => rfl); (case hg => rfl); (case hn => rfl); (case hr => first | (go_simp; done) | (go_simp; rfl)); intro w22 hw; replace HB := Aside0.mk (show Below w.heap.size w w22 from by rw [hw]; exact below_set (below_set (below_set (below_set (HB.out) Ggr.out) Ggr.out) Ggr.out) Ggr.out); replace Bgt := Aside0.mk (show w22.heap[gt]? = some (.cells #[.int .i64 a0_0, .slice A0_1 l0_1.length c0_1, .slice A0_2 l0_2.length c0_2, .int .i64 a0_3] 25 (0, 0)) from by rw [hw]; exact blk_far (blk_far (blk_far (blk_far (Bgt.out) (p := ⟨gr, 0, none⟩) Ngt_gr.out _) (p := ⟨gr, 1, none⟩) Ngt_gr.out _) (p := ⟨gr, 2, none⟩) Ngt_gr.out _) (p := ⟨gr, 3, none⟩) Ngt_gr.out _); replace Bgr := Aside0.mk (show w22.heap[gr]? = some (.cells #[.int .i64 o1, .slice (some ⟨g1, 0, none⟩) o2.length c1, .slice (some ⟨g2, 0, none⟩) o3.length c2, .int .i64 (wrap64 (o4 + 1))] 25 (0, 0)) from by rw [hw]; exact blk_put (cs := #[.int .i64 o1, .slice (some ⟨g1, 0, none⟩) o2.length c1, .slice (some ⟨g2, 0, none⟩) o3.length c2, .int .i64 0]) (cs' := #[.int .i64 o1, .slice (some ⟨g1, 0, none⟩) o2.length c1, .slice (some ⟨g2, 0, none⟩) o3.length c2, .int .i64 (wrap64 (o4 + 1))]) (blk_put (cs := #[.int .i64 o1, .slice (some ⟨g1, 0, none⟩) o2.length c1, .slice none 0 0, .int .i64 0]) (cs' := #[.int .i64 o1, .slice (some ⟨g1, 0, none⟩) o2.length c1, .slice (some ⟨g2, 0, none⟩) o3.length c2, .int .i64 0]) (blk_put (cs := #[.int .i64 o1, .slice none 0 0, .slice none 0 0, .int .i64 0]) (cs' := #[.int .i64 o1, .slice (some ⟨g1, 0, none⟩) o2.length c1, .slice none 0 0, .int .i64 0]) (blk_put (cs := #[.int .i64 0, .slice none 0 0, .slice none 0 0, .int .i64 0]) (cs' := #[.int .i64 o1, .slice none 0 0, .slice none 0 0, .int .i64 0]) (Bgr.out) 0 (.int .i64 o1) rfl) 1 (.slice (some ⟨g1, 0, none⟩) o2.length c1) rfl) 2 (.slice (some ⟨g2, 0, none⟩) o3.length c2) rfl) 3 (.int .i64 (wrap64 (o4 + 1))) rfl); replace Bgo := Aside0.mk (show w22.heap[go]? = some (.cells #[.int .i64 o1, .slice (some ⟨g1, 0, none⟩) o2.length c1, .slice (some ⟨g2, 0, none⟩) o3.length c2, .int .i64 (wrap64 (o4 + 1))] 25 (0, 0)) from by rw [hw]; exact blk_far (blk_far (blk_far (blk_far (Bgo.out) (p := ⟨gr, 0, none⟩) Ngo_gr.out _) (p := ⟨gr, 1, none⟩) Ngo_gr.out _) (p := ⟨gr, 2, none⟩) Ngo_gr.out _) (p := ⟨gr, 3, none⟩) Ngo_gr.out _); replace Bgc := Aside0.mk (show w22.heap[gc]? = some (.cells #[.bool false, .int .i64 fk, .int .i64 fv] 79 (0, 0)) from by rw [hw]; exact blk_far (blk_far (blk_far (blk_far (Bgc.out) (p := ⟨gr, 0, none⟩) Ngc_gr.out _) (p := ⟨gr, 1, none⟩) Ngc_gr.out _) (p := ⟨gr, 2, none⟩) Ngc_gr.out _) (p := ⟨gr, 3, none⟩) Ngc_gr.out _); replace TT := Aside0.mk (show Tb w.heap.size w22 g1 g2 c1 c2 o2.length o3.length (l1.set p.toNat ⟨cb, ck, cv⟩) l2 from by rw [hw]; exact Tb.far (Tb.far (Tb.far (Tb.far (TT.out) ⟨gr, 0, none⟩ (.int .i64 o1) M1gr.out M2gr.out) ⟨gr, 1, none⟩ (.slice (some ⟨g1, 0, none⟩) o2.length c1) M1gr.out M2gr.out) ⟨gr, 2, none⟩ (.slice (some ⟨g2, 0, none⟩) o3.length c2) M1gr.out M2gr.out) ⟨gr, 3, none⟩ (.int .i64 (wrap64 (o4 + 1))) M1gr.out M2gr.out); clear hw; (try clear hzgt_0); (try clear hzgt_1); (try clear hzgt_2); (try clear hzgt_3); (try clear hfgt_0); (try clear hfgt_1); (try clear hfgt_2); (try clear hfgt_3); (try clear hzgr_0); (try clear hzgr_1); (try clear hzgr_2); (try clear hzgr_3); (try clear hfgr_0); (try clear hfgr_1); (try clear hfgr_2); (try clear hfgr_3); (try clear hzgo_0); (try clear hzgo_1); (try clear hzgo_2); (try clear hzgo_3); (try clear hfgo_0); (try clear hfgo_1); (try clear hfgo_2); (try clear hfgo_3); (try clear hzgc_0); (try clear hzgc_1); (try clear hzgc_2); (try clear hfgc_0); (try clear hfgc_1); (try clear hfgc_2)))
        refine bodyPost_ret (results_ctt rfl _ _ gr 25 #[.int .i64 o1, .slice (some ⟨g1, 0, none⟩) o2.length c1, .slice (some ⟨g2, 0, none⟩) o3.length c2, .int .i64 (wrap64 (o4 + 1))] (0, 0) _ rfl Bgr.out Try.underlying25 rfl (by kernel_rfl)) rfl ?_
        exact ⟨_, _, rfl, TT.out.back.1, TT.out.back.2, HB.out⟩
     ·simp only [if_neg hin] at H
      cases H
    ·rw [if_neg hx] at H
     have hxb : decide (x ≤ 24) = false := decide_eq_false hx
     simp only [Option.some.injEq, Prod.mk.injEq] at H
     obtain ⟨rfl, rfl, rfl, rfl, rfl, rfl⟩ := H
     have hzgr_0 : wr.cell? ⟨gr, 0, none⟩ = some (.int .i64 0) := (blk_cell Bgr.out 0).trans rfl; have hzgr_1 : wr.cell? ⟨gr, 1, none⟩ = some (.slice none 0 0) := (blk_cell Bgr.out 1).trans rfl; have hzgr_2 : wr.cell? ⟨gr, 2, none⟩ = some (.slice none 0 0) := (blk_cell Bgr.out 2).trans rfl; have hzgr_3 : wr.cell? ⟨gr, 3, none⟩ = some (.int .i64 0) := (blk_cell Bgr.out 3).trans rfl; have hfgr_0 := blk_frozen Bgr.out 0; have hfgr_1 := blk_frozen Bgr.out 1; have hfgr_2 := blk_frozen Bgr.out 2; have hfgr_3 := blk_frozen Bgr.out 3
     go_wp2
     refine bodyPost_ret (results_ctt rfl _ _ gr 25 #[.int .i64 0, .slice none 0 0, .slice none 0 0, .int .i64 0] (0, 0) _ rfl (blk_put (cs := #[.int .i64 0, .slice none 0 0, .slice none 0 0, .int .i64 0]) (cs' := #[.int .i64 0, .slice none 0 0, .slice none 0 0, .int .i64 0]) (blk_put (cs := #[.int .i64 0, .slice none 0 0, .slice none 0 0, .int .i64 0]) (cs' := #[.int .i64 0, .slice none 0 0, .slice none 0 0, .int .i64 0]) (blk_put (cs := #[.int .i64 0, .slice none 0 0, .slice none 0 0, .int .i64 0]) (cs' := #[.int .i64 0, .slice none 0 0, .slice none 0 0, .int .i64 0]) (blk_put (cs := #[.int .i64 0, .slice none 0 0, .slice none 0 0, .int .i64 0]) (cs' := #[.int .i64 0, .slice none 0 0, .slice none 0 0, .int .i64 0]) (Bgr.out) 0 (.int .i64 0) rfl) 1 (.slice none 0 0) rfl) 2 (.slice none 0 0) rfl) 3 (.int .i64 0) rfl) Try.underlying25 rfl (by kernel_rfl)) rfl ?_
     exact ⟨_, _, rfl, Kd.R_nil _ _ _ _ _, Kd.R_nil _ _ _ _ _, below_set (below_set (below_set (below_set (HB.out) Ggr.out) Ggr.out) Ggr.out) Ggr.out⟩

end Go.Proofs.Ytemnidhllbbjnaa.XFnExactPlayTable
