-- Written by xprint.py of this session: out of the translation, by the kit's print with contracts of this session.
import Derived.Test.YtlieapaegmjhnaaXFnExactFilterOfx0
import Derived.Test.YtlieapaegmjhnaaXFnExactFilterOfx2
namespace Go.Proofs.Ytlieapaegmjhnaa.XFnExactFilterOf
open Go.RowKit Go.Proofs.YtlieapaegmjhnaaW.PrintWords Go.Proofs.YtlieapaegmjhnaaW.PrintLast Go.Proofs.YtlieapaegmjhnaaW.PrintMore
open Go.Proofs.Ytlieapaegmjhnaa.Min0
attribute [local go_sem] max2_int min2_int max_two min_two max_three min_three max_four min_four   -- for this text's walks alone
set_option linter.unusedVariables false
set_option linter.unusedSimpArgs false

/-! ### slices_Sort_int_int: function 71 -/
def slices_Sort_int_int.f (l0 : List Int) : Option (List Int) := if l0.length < 4611686018427387904 then some (l0.mergeSort fun x y => decide (x ≤ y)) else none
open Go.Sort in
theorem slices_Sort_int_int.calls (P0_ : Nat → Prop) (u9000_ : Value) (l0 : List Int) (r : List Int) (w0 w : World) (hB : Below w0.heap.size w0 w) (ho0 : Kd.R (Kd.int .i64) 3 w w0.heap.size P0_ u9000_ l0) (h : slices_Sort_int_int.f l0 = some r) :
  Calls Try.prog 71 #[u9000_] w fun e w' => e = .returned (.tuple #[]) ∧ Kd.R (Kd.int .i64) 3 w' w0.heap.size (fun k_ => (P0_ k_ ∨ w.heap.size ≤ k_)) u9000_ r ∧ Below w0.heap.size w0 w' ∧ Kept w w' (fun k_ => P0_ k_) := by
 unfold slices_Sort_int_int.f at h
 split at h
 ·rename_i hl
  obtain rfl := Option.some.inj h
  have ho := Kd.own_of_R ho0
  by_cases hv : u9000_ = .slice none 0 0
  ·subst hv
   obtain rfl := Bridge0.nil_of_own ho
   refine (Try.slices_Sort_int_none none 0 w).mono ?_
   rintro e w' ⟨rfl, rfl⟩
   exact ⟨rfl, by rw [List.mergeSort_nil]; exact Kd.R_nil _ _ _ _ _, hB, Kept.refl _ _⟩
  ·obtain ⟨g, cap, rfl, hg, hlt, hn, hm, _, hH⟩ := Lib.holds_of_ownsRow ho hv
   refine (Try.slices_Sort_int g 0 cap l0 w hH hlt hl).mono ?_
   rintro e w' ⟨rfl, n, os, rfl⟩
   have hp := Bridge0.put_row (q := n) (os := os) (k := l0.length) hB ho0 (ys := l0.mergeSort fun x y => decide (x ≤ y)) (List.length_mergeSort _) (Nat.le_refl _)
   rw [List.take_of_length_le (by rw [List.length_mergeSort]; exact Nat.le_refl _)] at hp
   exact ⟨rfl, hp⟩
 ·cases h

/-! ### slices_Compact_int_int: function 72 -/
def slices_Compact_int_int.f (l0 : List Int) : Option (List Int) := if l0.length ≤ 9223372036854775807 then some (Lib.compact l0) else none
theorem slices_Compact_int_int.compact_le (l0 : List Int) : (Lib.compact l0).length ≤ l0.length := by
 unfold Lib.compact Lib.compactUpTo
 rw [List.length_map]
 exact Nat.le_trans (List.length_filter_le _ _) (by simp)
open Go.Sort in
theorem slices_Compact_int_int.calls (P0_ : Nat → Prop) (u9000_ : Value) (l0 : List Int) (r : List Int) (w0 w : World) (hB : Below w0.heap.size w0 w) (ho0 : Kd.R (Kd.int .i64) 3 w w0.heap.size P0_ u9000_ l0) (h : slices_Compact_int_int.f l0 = some r) :
  Calls Try.prog 72 #[u9000_] w fun e w' => ∃ v0_ : Value, e = .returned (v0_) ∧ Kd.R (Kd.int .i64) 3 w' w0.heap.size (fun k_ => (P0_ k_ ∨ w.heap.size ≤ k_)) v0_ r ∧ Below w0.heap.size w0 w' ∧ Kept w w' (fun k_ => P0_ k_) := by
 unfold slices_Compact_int_int.f at h
 split at h
 ·rename_i hl
  obtain rfl := Option.some.inj h
  have ho := Kd.own_of_R ho0
  by_cases hv : u9000_ = .slice none 0 0
  ·subst hv
   obtain rfl := Bridge0.nil_of_own ho
   refine (Try.slices_Compact_int_empty none 0 w).mono ?_
   rintro e w' ⟨rfl, rfl⟩
   exact ⟨_, rfl, Kd.R_nil _ _ _ _ _, hB, Kept.refl _ _⟩
  ·obtain ⟨g, cap, rfl, hg, hlt, hn, hm, _, hH⟩ := Lib.holds_of_ownsRow ho hv
   refine (Try.slices_Compact_int g 0 cap l0 w hH hl hn).mono ?_
   rintro e w' ⟨rfl, q, rfl⟩
   have hc := slices_Compact_int_int.compact_le l0
   have hp := Bridge0.put_row (q := q) (os := #[]) (k := (Lib.compact l0).length) hB ho0 (ys := Lib.compact l0 ++ List.replicate (l0.length - (Lib.compact l0).length) 0) (by simp; omega) hc
   rw [List.take_left, grow_empty] at hp
   exact ⟨_, rfl, hp⟩
 ·cases h

/-! ### impl_bitsFor: function 47 -/
def impl_bitsFor.l0 : Nat → Int → List Int → Int → Option (List Int)
 | 0, _, _, _ => none
 | k + 1, x0, x3, x6 => if x6 < 3 then (if x3.length < 17592186044416 then (impl_bitsFor.l0 k x0 (x3 ++ [Int.tmod (wrap64 ((wrap64 (x0 * (wrap64 ((wrap64 (2 * x6)) + 7)))) + (wrap64 (13 * x6)))) 61]) (wrap64 (x6 + 1))) else (none)) else ((slices_Sort_int_int.f x3).bind fun t190 => ((slices_Compact_int_int.f t190).bind fun t191 => (some t191)))
def impl_bitsFor.f (k : Nat) (a0 : Int) : Option (List Int) := impl_bitsFor.l0 k a0 (([] : List Int)) 0
theorem impl_bitsFor.mono_l : ∀ k, (∀ y0 y1 y2, LeO (impl_bitsFor.l0 k y0 y1 y2) (impl_bitsFor.l0 (k + 1) y0 y1 y2))
 | 0 => fun _ _ _ r h => by simp [impl_bitsFor.l0] at h
 | k + 1 => by
  have ih0 := impl_bitsFor.mono_l k
  ·intro y0 y1 y2
   unfold impl_bitsFor.l0
   repeat' first
   | (with_reducible exact ih0 _ _ _)
   | (with_reducible exact LeO.refl _)
   | (with_reducible exact LeO.none _)
   | (with_reducible refine LeO.ite ?_ ?_)
   | (with_reducible refine LeO.bind ?_ (fun _ => ?_))
   | exact ih0 _ _ _
   | exact LeO.none _
   | refine LeO.ite ?_ ?_
   | refine LeO.bind ?_ (fun _ => ?_)
theorem impl_bitsFor.mono : ∀ a0 k, LeO (impl_bitsFor.f k a0) (impl_bitsFor.f (k + 1) a0) := by
 intro a0 k
 have ih0 := impl_bitsFor.mono_l k
 unfold impl_bitsFor.f
 repeat' first
   | (with_reducible exact ih0 _ _ _)
   | (with_reducible exact LeO.refl _)
   | (with_reducible exact LeO.none _)
   | (with_reducible refine LeO.ite ?_ ?_)
   | (with_reducible refine LeO.bind ?_ (fun _ => ?_))
   | exact ih0 _ _ _
   | exact LeO.none _
   | refine LeO.ite ?_ ?_
   | refine LeO.bind ?_ (fun _ => ?_)
set_option maxHeartbeats 8000000 in
set_option maxRecDepth 100000 in
theorem impl_bitsFor.calls (k : Nat) (a0 : Int) (r : List Int) (w : World) (h : impl_bitsFor.f k a0 = some r) :
  Calls Try.prog 47 #[.int .i64 a0] w fun e w' => ∃ v0_ : Value, e = .returned (v0_) ∧ Kd.R (Kd.int .i64) 3 w' w.heap.size (fun _ => True) v0_ r ∧ Below w.heap.size w w' := by
 have HB := Aside0.mk (Below.refl w.heap.size w)
 have H : (impl_bitsFor.l0 k a0 (([] : List Int)) 0) = some r := h
 clear h
 obtain ⟨y184, hy184⟩ : ∃ y_ : List Int, y_ = (([] : List Int)) := ⟨_, rfl⟩
 replace H : (impl_bitsFor.l0 k a0 y184 0) = some r := by first | (rw [hy184]; with_reducible exact H) | (have H2_ := (Option.bind_some _ _).symm.trans H; rw [hy184]; with_reducible exact H2_) | (have H2_ := (Option.bind_some _ _).symm.trans H; with_reducible exact H2_) | with_reducible exact H | (rw [hy184]; exact H) | exact H
 have Ny184 := Aside0.mk hy184
 clear hy184
 have H' := Aside0.mk H
 clear H
 go_enter Try.func47, Try.ntmps47
 go_wp2_with (first | ((with_reducible refine gate_dst (N := 5) rfl ?_); refine Kd.R_lit (Kd.int .i64) _ 3 ?hg (N := 5) ?hd (xs := ([] : List Int)) (inner := []) (ok := fun _ => True) (okp := fun _ => True) ?hr ?hp (fun _ hk => hk) trivial (Below.refl _ _) (Nat.le_refl _) (by simp) ?_; (case hd => rfl); (case hg => rfl); (case hr => first | (go_simp; done) | (go_simp; rfl)); (case hp => exact (Reps.none _ _)); intro v185 w2 ho3 hb hg_ hnew_; clear hg_ hnew_; (first | rw [← Ny184.out] at ho3 | (simp only [Int.reduceToNat] at ho3; rw [← Ny184.out] at ho3)); have HO186 := Aside0.mk (Kd.R_lower ho3 (below_size (bB HB))); replace HB := Aside0.mk (below_step (bB HB) hb); clear hb ho3))
 go_loopg [3, 6] k (fun kq v3 v6 w' => ∃ (x3_1 : List Int) (x6_1 : Int), v6 = .int .i64 x6_1 ∧ Aside0 (impl_bitsFor.l0 kq a0 x3_1 x6_1 = some r) ∧ Aside0 (kq ≤ k) ∧ Aside0 (Kd.R (Kd.int .i64) 3 w' w.heap.size (fun _ => True) v3 x3_1) ∧ Aside0 (Below w.heap.size w w'))
 case atStart => exact ⟨(y184), (0), (by first | rfl | (simp; done) | (simp [*]; done)), H', ⟨Nat.le_refl _⟩, ⟨by (with_reducible repeat (first | apply Kd.R_alloc | apply Kd.R_drewN | apply Kd.R_drew)); exact HO186.out⟩, ⟨bB HB⟩⟩
 case round =>
  clear H'
  try clear p2
  obtain ⟨x3_1, x6_1, rfl, HA, HK1, HO_3, HB⟩ := hrel
  cases gk with
  | zero => exact absurd HA.out (by simp [impl_bitsFor.l0])
  | succ k1 =>
   have H := HA.out
   clear HA
   simp only [impl_bitsFor.l0] at H
   by_cases c4 : x6_1 < 3
   ·rw [if_pos c4] at H
    have c4b0 : decide (x6_1 < 3) = true := decide_eq_true c4
    clear c4
    by_cases c5 : x3_1.length < 17592186044416
    ·rw [if_pos c5] at H
     have LMc5 := Aside0.mk c5
     clear c5
     obtain ⟨y187, hy187⟩ : ∃ y_ : List Int, y_ = (x3_1 ++ [Int.tmod (wrap64 ((wrap64 (a0 * (wrap64 ((wrap64 (2 * x6_1)) + 7)))) + (wrap64 (13 * x6_1)))) 61]) := ⟨_, rfl⟩
     replace H : (impl_bitsFor.l0 k1 a0 y187 (wrap64 (x6_1 + 1))) = some r := by first | (rw [hy187]; with_reducible exact H) | (have H2_ := (Option.bind_some _ _).symm.trans H; rw [hy187]; with_reducible exact H2_) | (have H2_ := (Option.bind_some _ _).symm.trans H; with_reducible exact H2_) | with_reducible exact H | (rw [hy187]; exact H) | exact H
     have Ny187 := Aside0.mk hy187
     clear hy187
     have H' := Aside0.mk H
     clear H
     go_wp2_with (first | ((with_reducible refine gate_builtin (b := .append) (xs := #[.tmp 9, .tmp 19]) rfl ?_); at_builtin; refine Kd.R_append (Kd.int .i64) (w0 := w) w.heap.size rfl (.tmp 9) (.tmp 19) 22 3 (.int .i64 0) 8 rfl Try.underlying22 info3 rfl (by decide) (by omega) u3 x3_1 (Int.tmod (wrap64 ((wrap64 (a0 * (wrap64 ((wrap64 (2 * x6_1)) + 7)))) + (wrap64 (13 * x6_1)))) 61) [.int .i64 (Int.tmod (wrap64 ((wrap64 (a0 * (wrap64 ((wrap64 (2 * x6_1)) + 7)))) + (wrap64 (13 * x6_1)))) 61)] (fun _ => True) (fun _ => False) rfl rfl ?aP (fun _ hk => hk.elim) ?aF ?aO ?aB ?aS ?aL ?_; (case aP => exact rfl); (case aB => exact (bB HB)); (case aF => exact (fun _ _ => trivial)); (case aO => exact (aR HO_3)); (case aS => exact (below_size (bB HB))); (case aL => have := LMc5.out; omega); intro v188 w6 ho hb hg hat; rw [← Ny187.out] at ho; replace HB := Aside0.mk (hb); have HO189 := Aside0.mk (ho); clear HO_3; clear ho hb hg hat))
     go_roundg k1
     case measure => have := HK1.out; omega
     case rel => exact ⟨(y187), (wrap64 (x6_1 + 1)), (by first | rfl | (simp; done) | (simp [*]; done)), H', ⟨by have := HK1.out; omega⟩, ⟨by (with_reducible repeat (first | apply Kd.R_alloc | apply Kd.R_drewN | apply Kd.R_drew)); exact HO189.out⟩, ⟨bB HB⟩⟩
    ·rw [if_neg c5] at H
     exact absurd H (by simp)
   ·rw [if_neg c4] at H
    have c4b0 : decide (x6_1 < 3) = false := decide_eq_false c4
    clear c4
    replace H := Option.bind_eq_some_iff.mp H
    obtain ⟨t190, A70, H⟩ := H
    replace H : ((slices_Compact_int_int.f t190).bind fun t191 => (some t191)) = some r := H
    have A7 := Aside0.mk A70
    clear A70
    replace H := Option.bind_eq_some_iff.mp H
    obtain ⟨t191, A80, H⟩ := H
    replace H : (some t191) = some r := H
    have A8 := Aside0.mk A80
    clear A80
    obtain rfl := Option.some.inj H
    obtain ⟨Ao9, co9, eo9⟩ := Kd.R_slice HO_3.out
    subst eo9
    go_wp2_with (first | ((with_reducible refine gate_callee (f := 71) rfl ?_); refine goesL_ (some 23) rfl rfl Try.func71 (by kernel_rfl) rfl #[.slice Ao9 x3_1.length co9] rfl (by (try simp only [List.map_toArray, List.map_cons, List.map_nil]); first | done | rfl | (simp only [List.length_drop, List.length_take]; rfl)) ?_; (with_reducible refine (slices_Sort_int_int.calls (fun k_ => some k_ = (.slice Ao9 x3_1.length co9 : Value).ownBlock) (.slice Ao9 x3_1.length co9) x3_1 t190 w _ ?side1 ?side2 A7.out).mono ?_); (case side1 => repeat (first | (with_reducible first | exact HB.out | apply below_alloc | apply pw_below_drewN | apply below_drew1) | exact HB.out)); (case side2 => exact Kd.R_tight rfl HO_3.out); rintro e w10 ⟨rfl, hy0, hb, hkp⟩; refine ⟨_, rfl, ?_⟩; replace HO_3 := Aside0.mk (Kd.R_reok rfl hy0 (fun k_ e_ => HO_3.out.1 k_ e_)); replace HB := Aside0.mk (hb); (try clear hb); (try clear hkp); (try clear hy0)) | ((with_reducible refine gate_callee (f := 72) rfl ?_); refine goesL_ (some 25) rfl rfl Try.func72 (by kernel_rfl) rfl #[.slice Ao9 x3_1.length co9] rfl (by (try simp only [List.map_toArray, List.map_cons, List.map_nil]); first | done | rfl | (simp only [List.length_drop, List.length_take]; rfl)) ?_; (with_reducible refine (slices_Compact_int_int.calls (fun k_ => some k_ = (.slice Ao9 x3_1.length co9 : Value).ownBlock) (.slice Ao9 x3_1.length co9) t190 t191 w _ ?side1 ?side2 A8.out).mono ?_); (case side1 => repeat (first | (with_reducible first | exact HB.out | apply below_alloc | apply pw_below_drewN | apply below_drew1) | exact HB.out)); (case side2 => exact Kd.R_tight rfl HO_3.out); rintro e w11 ⟨v192, rfl, ho0, hb, hkp⟩; refine ⟨_, rfl, ?_⟩; have HO193 := Aside0.mk (Kd.R_mono (ok' := fun k_ => True) ho0 (fun k_ hk_ => trivial)); replace HB := Aside0.mk (hb); clear HO_3; (try clear hb); (try clear hkp); (try clear ho0)))
    go_ret
    exact ⟨_, by first | rfl | (simp [errW_none, errW_some] <;> rfl) | (simp [*, errW_none, errW_some] <;> rfl), by (with_reducible repeat (first | apply Kd.R_alloc | apply Kd.R_drewN | apply Kd.R_drew)); exact HO193.out, bB HB⟩

/-! ### slices_Clone_bool_bool: function 56 -/
def slices_Clone_bool_bool.f (l0 : List Bool) : Option (List Bool) := (some (([] : List Bool) : List Bool)).bind fun y194 => (if y194.length + l0.length < 140737488355328 then (some (y194 ++ l0)) else (none))
set_option maxHeartbeats 8000000 in
set_option maxRecDepth 100000 in
theorem slices_Clone_bool_bool.calls (A0 : Option Addr) (c0 : Nat) (l0 : List Bool) (r : List Bool) (w : World) (hr0 : Kd.C Kd.bool w A0 l0.length l0) (hc0 : l0.length ≤ c0) (h : slices_Clone_bool_bool.f l0 = some r) :
  Calls Try.prog 56 #[.slice A0 l0.length c0] w fun e w' => ∃ v0_ : Value, e = .returned (v0_) ∧ Kd.R Kd.bool 4 w' w.heap.size (fun _ => True) v0_ r ∧ Below w.heap.size w w' := by
 rcases A0 with _ | ad
 ·have hty := Try.underlying28
  have e0 : l0 = [] := by
   rcases l0 with _ | ⟨x, t⟩
   ·rfl
   ·obtain ⟨_, e_, _⟩ := hr0.2.2 (by simp)
    cases e_
  subst e0
  have er : r = [] := by
   unfold slices_Clone_bool_bool.f at h
   simpa using h.symm
  subst er
  have heql : ∀ (W : World) (n c : Nat), (Go.binOp .eql 28 (.slice none n c) (.slice none 0 0)).run Try.prog W = .ok (.bool true) W := fun W n c => by first | exact Lib.run_eql_slice_nil W 28 4 none n c 0 0 Try.underlying28 | exact Lib.run_eql_slice_nil W _ _ none n c (by assumption)
  clear h hr0 hc0 hty
  go_enter Try.func56, Try.ntmps56
  go_wp2
  go_ret
  exact ⟨_, rfl, Kd.R_nil _ _ _ _ _, Below.refl _ _⟩
 have hty := Try.underlying28
 have heql : ∀ (W : World) (n c : Nat), (Go.binOp .eql 28 (.slice (some ad) n c) (.slice none 0 0)).run Try.prog W = .ok (.bool false) W := fun W n c => by first | exact Lib.run_eql_slice_nil W 28 4 (some ad) n c 0 0 Try.underlying28 | exact Lib.run_eql_slice_nil W _ _ (some ad) n c (by assumption)
 clear hty
 have HR0 := Aside0.mk hr0
 have HC0 := Aside0.mk hc0
 clear hr0 hc0
 have HB := Aside0.mk (Below.refl w.heap.size w)
 have H : ((some (([] : List Bool) : List Bool)).bind fun y194 => (if y194.length + l0.length < 140737488355328 then (some (y194 ++ l0)) else (none))) = some r := h
 clear h
 obtain ⟨y194, hy194⟩ : ∃ y_ : List Bool, y_ = (([] : List Bool)) := ⟨_, rfl⟩
 replace H : (if y194.length + l0.length < 140737488355328 then (some (y194 ++ l0)) else (none)) = some r := by first | (rw [hy194]; with_reducible exact H) | (have H2_ := (Option.bind_some _ _).symm.trans H; rw [hy194]; with_reducible exact H2_) | (have H2_ := (Option.bind_some _ _).symm.trans H; with_reducible exact H2_) | with_reducible exact H | (rw [hy194]; exact H) | exact H
 have Ny194 := Aside0.mk hy194
 clear hy194
 by_cases c2 : y194.length + l0.length < 140737488355328
 ·rw [if_pos c2] at H
  have LMc2 := Aside0.mk c2
  clear c2
  obtain ⟨y197, hy197⟩ : ∃ y_ : List Bool, y_ = (y194 ++ l0) := ⟨_, rfl⟩
  replace H : (some y197) = some r := by first | (rw [hy197]; with_reducible exact H) | (have H2_ := (Option.bind_some _ _).symm.trans H; rw [hy197]; with_reducible exact H2_) | (have H2_ := (Option.bind_some _ _).symm.trans H; with_reducible exact H2_) | with_reducible exact H | (rw [hy197]; exact H) | exact H
  have Ny197 := Aside0.mk hy197
  clear hy197
  obtain rfl := Option.some.inj H
  go_enter Try.func56, Try.ntmps56
  go_wp2_with (first | ((with_reducible refine gate_dst (N := 5) rfl ?_); refine Kd.R_lit Kd.bool _ 4 ?hg (N := 5) ?hd (xs := ([] : List Bool)) (inner := []) (ok := fun _ => True) (okp := fun _ => True) ?hr ?hp (fun _ hk => hk) trivial (Below.refl _ _) (Nat.le_refl _) (by simp) ?_; (case hd => rfl); (case hg => rfl); (case hr => first | (go_simp; done) | (go_simp; rfl)); (case hp => exact (Reps.none _ _)); intro v195 w3 ho4 hb hg_ hnew_; clear hg_ hnew_; (first | rw [← Ny194.out] at ho4 | (simp only [Int.reduceToNat] at ho4; rw [← Ny194.out] at ho4)); have HO196 := Aside0.mk (Kd.R_lower ho4 (below_size (bB HB))); replace HB := Aside0.mk (below_step (bB HB) hb); clear hb ho4) | ((with_reducible refine gate_builtin (b := .append) (xs := #[.tmp 5, .tmp 6]) rfl ?_); at_builtin; refine Kd.R_append_rows Kd.bool (w0 := w) w.heap.size rfl (.tmp 5) (.tmp 6) 28 4 (.bool false) 1 rfl Try.underlying28 info4 rfl (by decide) (by omega) v195 y194 l0 _ _ _ (fun _ => True) (fun _ => False) rfl rfl ?aO ?aR (fun _ _ h => h) (fun _ h => h.elim) ?aF ?aB ?aS ?aL ?_; (case aR => repeat (first | exact (Kd.C_below HR0.out HB.out) | (with_reducible refine Kd.C_alloc ?_ _) | (with_reducible refine Kd.C_drewN ?_ _) | (with_reducible refine Kd.C_drew ?_))); (case aB => exact (bB HB)); (case aF => exact (fun _ _ => trivial)); (case aO => exact (aR HO196)); (case aS => exact (below_size (bB HB))); (case aL => have := LMc2.out; omega); intro v198 w5 ho hb hg hat; rw [← Ny197.out] at ho; replace HB := Aside0.mk (hb); have HO199 := Aside0.mk (ho); clear HO196; clear ho hb hg hat))
  go_ret
  exact ⟨_, by first | rfl | (simp [errW_none, errW_some] <;> rfl) | (simp [*, errW_none, errW_some] <;> rfl), by (with_reducible repeat (first | apply Kd.R_alloc | apply Kd.R_drewN | apply Kd.R_drew)); exact HO199.out, bB HB⟩
 ·rw [if_neg c2] at H
  exact absurd H (by simp)

/-! ### impl_PutFilter: function 20 -/
mutual
def impl_PutFilter.j0 : Nat → Int → Bool → List Bool → Option (List Bool × Bool)
 | 0, _, _, _ => none
 | k + 1, x1, x16, x201000 => if x16 = true then (some (([] : List Bool), false)) else ((slices_Clone_bool_bool.f x201000).bind fun t204 => ((impl_bitsFor.f k x1).bind fun t208 => (impl_PutFilter.l0 k t208 (t208.length : Int) 0 t204)))
def impl_PutFilter.l0 : Nat → List Int → Int → Int → List Bool → Option (List Bool × Bool)
 | 0, _, _, _, _ => none
 | k + 1, x23, x24, x25, x208000 => if x25 < x24 then (if 0 ≤ x25 then (if x25 < (x23.length : Int) then (if 0 ≤ (rd x23 x25) then (if (rd x23 x25) < (x208000.length : Int) then (impl_PutFilter.l0 k x23 x24 (wrap64 (x25 + 1)) (x208000.set ((rd x23 x25) : Int).toNat true)) else (none)) else (none)) else (none)) else (none)) else (some (x208000, true))
end
def impl_PutFilter.f (k : Nat) (l0_0 : List Bool) (a1 : Int) : Option (List Bool × Bool) := (impl_GoodFilter.f l0_0).bind fun t202 => (if t202 = true then ((impl_isKey.f a1).bind fun t203 => (impl_PutFilter.j0 k a1 (!t203) l0_0)) else (impl_PutFilter.j0 k a1 true l0_0))
theorem impl_PutFilter.mono_l : ∀ k, (∀ y0 y1 y2, LeO (impl_PutFilter.j0 k y0 y1 y2) (impl_PutFilter.j0 (k + 1) y0 y1 y2)) ∧ (∀ y0 y1 y2 y3, LeO (impl_PutFilter.l0 k y0 y1 y2 y3) (impl_PutFilter.l0 (k + 1) y0 y1 y2 y3))
 | 0 => ⟨fun _ _ _ r h => by simp [impl_PutFilter.j0] at h, fun _ _ _ _ r h => by simp [impl_PutFilter.l0] at h⟩
 | k + 1 => by
  obtain ⟨ih0, ih1⟩ := impl_PutFilter.mono_l k
  refine ⟨?_, ?_⟩
  ·intro y0 y1 y2
   unfold impl_PutFilter.j0
   repeat' first
   | (with_reducible exact ih0 _ _ _)
   | (with_reducible exact ih1 _ _ _ _)
   | (with_reducible exact impl_bitsFor.mono _ _)
   | (with_reducible exact LeO.refl _)
   | (with_reducible exact LeO.none _)
   | (with_reducible refine LeO.ite ?_ ?_)
   | (with_reducible refine LeO.bind ?_ (fun _ => ?_))
   | exact ih0 _ _ _
   | exact ih1 _ _ _ _
   | exact impl_bitsFor.mono _ _
   | exact LeO.none _
   | refine LeO.ite ?_ ?_
   | refine LeO.bind ?_ (fun _ => ?_)
  ·intro y0 y1 y2 y3
   unfold impl_PutFilter.l0
   repeat' first
   | (with_reducible exact ih0 _ _ _)
   | (with_reducible exact ih1 _ _ _ _)
   | (with_reducible exact impl_bitsFor.mono _ _)
   | (with_reducible exact LeO.refl _)
   | (with_reducible exact LeO.none _)
   | (with_reducible refine LeO.ite ?_ ?_)
   | (with_reducible refine LeO.bind ?_ (fun _ => ?_))
   | exact ih0 _ _ _
   | exact ih1 _ _ _ _
   | exact impl_bitsFor.mono _ _
   | exact LeO.none _
   | refine LeO.ite ?_ ?_
   | refine LeO.bind ?_ (fun _ => ?_)
theorem impl_PutFilter.mono : ∀ a0 a1 k, LeO (impl_PutFilter.f k a0 a1) (impl_PutFilter.f (k + 1) a0 a1) := by
 intro a0 a1 k
 obtain ⟨ih0, ih1⟩ := impl_PutFilter.mono_l k
 unfold impl_PutFilter.f
 repeat' first
   | (with_reducible exact ih0 _ _ _)
   | (with_reducible exact ih1 _ _ _ _)
   | (with_reducible exact impl_bitsFor.mono _ _)
   | (with_reducible exact LeO.refl _)
   | (with_reducible exact LeO.none _)
   | (with_reducible refine LeO.ite ?_ ?_)
   | (with_reducible refine LeO.bind ?_ (fun _ => ?_))
   | exact ih0 _ _ _
   | exact ih1 _ _ _ _
   | exact impl_bitsFor.mono _ _
   | exact LeO.none _
   | refine LeO.ite ?_ ?_
   | refine LeO.bind ?_ (fun _ => ?_)
set_option maxHeartbeats 8000000 in
set_option maxRecDepth 100000 in
theorem impl_PutFilter.calls (k : Nat) (A0_0 : Option Addr) (c0_0 : Nat) (l0_0 : List Bool) (a1 : Int) (r1 : List Bool) (r2 : Bool) (w : World) (hr0_0 : Kd.C Kd.bool w A0_0 l0_0.length l0_0) (hc0_0 : l0_0.length ≤ c0_0) (h : impl_PutFilter.f k l0_0 a1 = some (r1, r2)) :
  Calls Try.prog 20 #[.agg #[.slice A0_0 l0_0.length c0_0], .int .i64 a1] w fun e w' => ∃ v0_ : Value, e = .returned (.tuple #[.agg #[v0_], .bool r2]) ∧ Kd.R Kd.bool 4 w' w.heap.size (fun _ => True) v0_ r1 ∧ Below w.heap.size w w' := by
 have hu34 := Try.underlying34
 have HR0_0 := Aside0.mk hr0_0
 have HC0_0 := Aside0.mk hc0_0
 clear hr0_0 hc0_0
 have HB := Aside0.mk (Below.refl w.heap.size w)
 have H : ((impl_GoodFilter.f l0_0).bind fun t202 => (if t202 = true then ((impl_isKey.f a1).bind fun t203 => (impl_PutFilter.j0 k a1 (!t203) l0_0)) else (impl_PutFilter.j0 k a1 true l0_0))) = some (r1, r2) := h
 clear h
 have HC3 := Aside0.mk H
 clear H
 go_enter Try.func20, Try.ntmps20
 go_upto_region 1 with (first | ((with_reducible refine gate_dst (N := 2) rfl ?_); refine box_event ?hg (N := 2) ?hd (cs := #[.slice A0_0 l0_0.length c0_0]) (t := 34) ?hr ?_; (case hd => rfl); (case hg => rfl); (case hr => first | (go_simp; done) | (go_simp; rfl)); intro gb200 hg w4 hbox hb; have BK200 := Aside0.mk (hbox); have GW200 := Aside0.mk ((by rw [hg]; exact (below_size (bB HB)) : w.heap.size ≤ gb200)); have GE200 := Aside0.mk ((by rw [hg]; exact (below_size (bB HB)) : w.heap.size ≤ gb200)); replace HB := Aside0.mk (below_step (bB HB) hb); clear hb hbox hg) | ((with_reducible refine gate_dst (N := 4) rfl ?_); refine box_event ?hg (N := 4) ?hd (cs := #[.slice none 0 0]) (t := 34) ?hr ?_; (case hd => rfl); (case hg => rfl); (case hr => first | (go_simp; done) | (go_simp; rfl)); intro gb201 hg w5 hbox hb; have BK201 := Aside0.mk (hbox); have GW201 := Aside0.mk ((by rw [hg]; exact (below_size (bB HB)) : w.heap.size ≤ gb201)); have GE201 := Aside0.mk ((by rw [hg]; exact (below_size (bB HB)) : w.heap.size ≤ gb201)); replace HB := Aside0.mk (below_step (bB HB) hb); have NB200_201 := Aside0.mk ((by rw [hg]; exact Nat.ne_of_lt (blk_lt (g := gb200) (o := .cells #[.slice A0_0 l0_0.length c0_0] 34 (0, 0)) (kB BK200)) : gb200 ≠ gb201)); have NB201_200 := Aside0.mk ((by rw [hg]; exact Nat.ne_of_gt (blk_lt (g := gb200) (o := .cells #[.slice A0_0 l0_0.length c0_0] 34 (0, 0)) (kB BK200)) : gb201 ≠ gb200)); replace BK200 := Aside0.mk (blk_below (g := gb200) (o := .cells #[.slice A0_0 l0_0.length c0_0] 34 (0, 0)) (kB BK200) hb); clear hb hbox hg))
 (try simp only [Act.put, List.setIfInBounds_toArray, List.set_cons_zero, List.set_cons_succ])
 go_cut [16] (fun v16 wc => ∃ (kq : Nat) (x16_2 : Bool), v16 = .bool x16_2 ∧ Aside0 (impl_PutFilter.j0 kq a1 x16_2 l0_0 = some (r1, r2)) ∧ Aside0 (kq ≤ k) ∧ Aside0 (wc.heap[gb200]? = some (.cells #[(.slice A0_0 l0_0.length c0_0)] 34 (0, 0))) ∧ Aside0 (wc.heap[gb201]? = some (.cells #[(.slice none 0 0)] 34 (0, 0))) ∧ Aside0 (Below w.heap.size w wc))
 case first =>
  have H := HC3.out
  clear HC3
  replace H := Option.bind_eq_some_iff.mp H
  obtain ⟨t202, A60, H⟩ := H
  replace H : (if t202 = true then ((impl_isKey.f a1).bind fun t203 => (impl_PutFilter.j0 k a1 (!t203) l0_0)) else (impl_PutFilter.j0 k a1 true l0_0)) = some (r1, r2) := H
  have A6 := Aside0.mk A60
  clear A60
  by_cases c7 : t202 = true
  ·subst c7
   have H1 : ((impl_isKey.f a1).bind fun t203 => (impl_PutFilter.j0 k a1 (!t203) l0_0)) = some (r1, r2) := by rw [if_pos rfl] at H; exact H
   clear H
   have H := H1
   clear H1
   replace H := Option.bind_eq_some_iff.mp H
   obtain ⟨t203, A80, H⟩ := H
   replace H : (impl_PutFilter.j0 k a1 (!t203) l0_0) = some (r1, r2) := H
   have A8 := Aside0.mk A80
   clear A80
   have H' := Aside0.mk H
   clear H
   have hnb9 := NB200_201.out
   have hnc9 := NB201_200.out
   have hcz10_0 : w5.cell? ⟨gb200, 0, none⟩ = some (.slice A0_0 l0_0.length c0_0) := (blk_cell BK200.out 0).trans rfl
   have hfz10_0 := blk_frozen BK200.out 0
   go_wp2_with (first | ((with_reducible refine gate_callee (f := 29) rfl ?_); refine goesL_ (some 10) rfl rfl Try.func29 (by kernel_rfl) rfl #[.agg #[.slice A0_0 l0_0.length c0_0]] rfl (by (try simp only [List.map_toArray, List.map_cons, List.map_nil]); first | done | rfl | (simp only [List.length_drop, List.length_take]; rfl)) ?_; (with_reducible refine (impl_GoodFilter.calls _ _ l0_0 true _ ?side1 ?side2 A6.out).mono ?_); (case side1 => repeat (first | exact (Kd.C_below HR0_0.out HB.out) | (with_reducible refine Kd.C_alloc ?_ _) | (with_reducible refine Kd.C_drewN ?_ _) | (with_reducible refine Kd.C_drew ?_))); (case side2 => exact HC0_0.out); rintro e w11 ⟨rfl, hb⟩; refine ⟨_, rfl, ?_⟩; replace BK200 := Aside0.mk (blk_below (g := gb200) (o := .cells #[.slice A0_0 l0_0.length c0_0] 34 (0, 0)) (kB BK200) hb); replace BK201 := Aside0.mk (blk_below (g := gb201) (o := .cells #[.slice none 0 0] 34 (0, 0)) (kB BK201) hb); replace HB := Aside0.mk (below_step (bB HB) hb); (try clear hb); (try clear hb2); (try clear hk); (try clear hi)) | (go_at_call 46; (with_reducible refine (impl_isKey.calls a1 t203 _ A8.out).mono ?_); rintro e w' ⟨rfl, ⟨nd, rfl⟩⟩))
   go_meet
   case rel => exact ⟨_, (!t203), (by first | rfl | (simp; done) | (simp [*]; done)), H', ⟨by first | omega | exact Nat.le_refl _⟩, ⟨by (with_reducible repeat (first | refine blk_drewN ?_ _ | refine blk_drew ?_ | refine blk_alloc ?_ _)); exact BK200.out⟩, ⟨by (with_reducible repeat (first | refine blk_drewN ?_ _ | refine blk_drew ?_ | refine blk_alloc ?_ _)); exact BK201.out⟩, ⟨bB HB⟩⟩
  ·replace c7 := Bool.eq_false_iff.mpr c7
   subst c7
   have H1 : (impl_PutFilter.j0 k a1 true l0_0) = some (r1, r2) := by rw [if_neg (show ¬ (false = true) by decide)] at H; exact H
   clear H
   have H := H1
   clear H1
   have H' := Aside0.mk H
   clear H
   have hnb12 := NB200_201.out
   have hnc12 := NB201_200.out
   have hcz13_0 : w5.cell? ⟨gb200, 0, none⟩ = some (.slice A0_0 l0_0.length c0_0) := (blk_cell BK200.out 0).trans rfl
   have hfz13_0 := blk_frozen BK200.out 0
   go_wp2_with (first | ((with_reducible refine gate_callee (f := 29) rfl ?_); refine goesL_ (some 10) rfl rfl Try.func29 (by kernel_rfl) rfl #[.agg #[.slice A0_0 l0_0.length c0_0]] rfl (by (try simp only [List.map_toArray, List.map_cons, List.map_nil]); first | done | rfl | (simp only [List.length_drop, List.length_take]; rfl)) ?_; (with_reducible refine (impl_GoodFilter.calls _ _ l0_0 false _ ?side1 ?side2 A6.out).mono ?_); (case side1 => repeat (first | exact (Kd.C_below HR0_0.out HB.out) | (with_reducible refine Kd.C_alloc ?_ _) | (with_reducible refine Kd.C_drewN ?_ _) | (with_reducible refine Kd.C_drew ?_))); (case side2 => exact HC0_0.out); rintro e w14 ⟨rfl, hb⟩; refine ⟨_, rfl, ?_⟩; replace BK200 := Aside0.mk (blk_below (g := gb200) (o := .cells #[.slice A0_0 l0_0.length c0_0] 34 (0, 0)) (kB BK200) hb); replace BK201 := Aside0.mk (blk_below (g := gb201) (o := .cells #[.slice none 0 0] 34 (0, 0)) (kB BK201) hb); replace HB := Aside0.mk (below_step (bB HB) hb); (try clear hb); (try clear hb2); (try clear hk); (try clear hi)))
   go_meet
   case rel => exact ⟨_, (true), (by first | rfl | (simp; done) | (simp [*]; done)), H', ⟨by first | omega | exact Nat.le_refl _⟩, ⟨by (with_reducible repeat (first | refine blk_drewN ?_ _ | refine blk_drew ?_ | refine blk_alloc ?_ _)); exact BK200.out⟩, ⟨by (with_reducible repeat (first | refine blk_drewN ?_ _ | refine blk_drew ?_ | refine blk_alloc ?_ _)); exact BK201.out⟩, ⟨bB HB⟩⟩
 case rest =>
  clear HC3
  try clear c1
  try clear c2
  try clear p2
  try clear c7
  try clear c9
  try clear c12
  try clear hcz10_0
  try clear hcz13_0
  try clear hfz10_0
  try clear hfz13_0
  obtain ⟨kq, x16_2, rfl, HA, HJ2, BK200, BK201, HB⟩ := hcut
  cases kq with
  | zero => exact absurd HA.out (by simp [impl_PutFilter.j0])
  | succ kj2 =>
   have H := HA.out
   clear HA
   simp only [impl_PutFilter.j0] at H
   by_cases c15 : x16_2 = true
   ·subst c15
    have H1 : (some (([] : List Bool), false)) = some (r1, r2) := by rw [if_pos rfl] at H; exact H
    clear H
    have H := H1
    clear H1
    simp only [Option.some.injEq, Prod.mk.injEq] at H
    obtain ⟨rfl, rfl⟩ := H
    have hnb16 := NB201_200.out
    have hnc16 := NB200_201.out
    have hcz17_0 : wc.cell? ⟨gb201, 0, none⟩ = some (.slice none 0 0) := (blk_cell BK201.out 0).trans rfl
    have hfz17_0 := blk_frozen BK201.out 0
    go_wp2
    refine bodyPost_ret (results_ct rfl _ _ gb201 34 #[.slice none 0 0] (0, 0) _ rfl (by (with_reducible repeat (first | refine blk_drewN ?_ _ | refine blk_drew ?_ | refine blk_alloc ?_ _)); refine blk_put (cs := #[.slice none 0 0]) ?_ 0 _ rfl; (with_reducible repeat (first | refine blk_drewN ?_ _ | refine blk_drew ?_ | refine blk_alloc ?_ _)); exact BK201.out) Try.underlying34 rfl (by kernel_rfl)) rfl ?_
    exact ⟨_, by first | rfl | (simp [errW_none, errW_some] <;> rfl) | (simp [*, errW_none, errW_some] <;> rfl), by first | exact Kd.R_nil _ _ _ _ _ | exact Kd.N_nil _ _ _ _ _ | exact Kd.V_nil _ _ _ _ _ | exact Kd.Q_nil _ _ _ _ _ | exact Kd.S_nil _ _ _ _ _, bB HB⟩
   ·replace c15 := Bool.eq_false_iff.mpr c15
    subst c15
    have H1 : ((slices_Clone_bool_bool.f l0_0).bind fun t204 => ((impl_bitsFor.f kj2 a1).bind fun t208 => (impl_PutFilter.l0 kj2 t208 (t208.length : Int) 0 t204))) = some (r1, r2) := by rw [if_neg (show ¬ (false = true) by decide)] at H; exact H
    clear H
    have H := H1
    clear H1
    replace H := Option.bind_eq_some_iff.mp H
    obtain ⟨t204, A180, H⟩ := H
    replace H : ((impl_bitsFor.f kj2 a1).bind fun t208 => (impl_PutFilter.l0 kj2 t208 (t208.length : Int) 0 t204)) = some (r1, r2) := H
    have A18 := Aside0.mk A180
    clear A180
    replace H := Option.bind_eq_some_iff.mp H
    obtain ⟨t208, A190, H⟩ := H
    replace H : (impl_PutFilter.l0 kj2 t208 (t208.length : Int) 0 t204) = some (r1, r2) := H
    have A19 := Aside0.mk A190
    clear A190
    have H' := Aside0.mk H
    clear H
    have hnb20 := NB200_201.out
    have hnc20 := NB201_200.out
    have hcz21_0 : wc.cell? ⟨gb200, 0, none⟩ = some (.slice A0_0 l0_0.length c0_0) := (blk_cell BK200.out 0).trans rfl
    have hfz21_0 := blk_frozen BK200.out 0
    go_wp2_with (first | ((with_reducible refine gate_callee (f := 56) rfl ?_); refine goesL_ (some 20) rfl rfl Try.func56 (by kernel_rfl) rfl #[.slice A0_0 l0_0.length c0_0] rfl (by (try simp only [List.map_toArray, List.map_cons, List.map_nil]); first | done | rfl | (simp only [List.length_drop, List.length_take]; rfl)) ?_; (with_reducible refine (slices_Clone_bool_bool.calls _ _ l0_0 t204 _ ?side1 ?side2 A18.out).mono ?_); (case side1 => repeat (first | exact (Kd.C_below HR0_0.out HB.out) | (with_reducible refine Kd.C_alloc ?_ _) | (with_reducible refine Kd.C_drewN ?_ _) | (with_reducible refine Kd.C_drew ?_))); (case side2 => exact HC0_0.out); rintro e w22 ⟨v205, rfl, ho0, hb⟩; refine ⟨_, rfl, ?_⟩; have HO206 := Aside0.mk (Kd.R_lower ho0 (below_size (bB HB))); replace BK200 := Aside0.mk (blk_below (g := gb200) (o := .cells #[.slice A0_0 l0_0.length c0_0] 34 (0, 0)) (kB BK200) hb); replace BK201 := Aside0.mk (blk_below (g := gb201) (o := .cells #[.slice none 0 0] 34 (0, 0)) (kB BK201) hb); replace HB := Aside0.mk (below_step (bB HB) hb); (try clear hb); (try clear hb2); (try clear hk); (try clear hi); (try clear ho0); obtain ⟨Ao23, co23, eo23⟩ := Kd.R_slice HO206.out; subst eo23) | ((with_reducible refine gate_dst (N := 6) rfl ?_); refine box_event ?hg (N := 6) ?hd (cs := #[.slice none 0 0]) (t := 34) ?hr ?_; (case hd => rfl); (case hg => rfl); (case hr => first | (go_simp; done) | (go_simp; rfl)); intro gb207 hg w24 hbox hb; replace HO206 := Aside0.mk (Kd.R_below (aR HO206) hb); have BK207 := Aside0.mk (hbox); have GW207 := Aside0.mk ((by rw [hg]; exact (below_size (bB HB)) : w.heap.size ≤ gb207)); have GE207 := Aside0.mk ((by rw [hg]; exact (below_size (bB HB)) : w.heap.size ≤ gb207)); replace HB := Aside0.mk (below_step (bB HB) hb); have NB200_207 := Aside0.mk ((by rw [hg]; exact Nat.ne_of_lt (blk_lt (g := gb200) (o := .cells #[.slice A0_0 l0_0.length c0_0] 34 (0, 0)) (kB BK200)) : gb200 ≠ gb207)); have NB207_200 := Aside0.mk ((by rw [hg]; exact Nat.ne_of_gt (blk_lt (g := gb200) (o := .cells #[.slice A0_0 l0_0.length c0_0] 34 (0, 0)) (kB BK200)) : gb207 ≠ gb200)); replace BK200 := Aside0.mk (blk_below (g := gb200) (o := .cells #[.slice A0_0 l0_0.length c0_0] 34 (0, 0)) (kB BK200) hb); have NB201_207 := Aside0.mk ((by rw [hg]; exact Nat.ne_of_lt (blk_lt (g := gb201) (o := .cells #[.slice none 0 0] 34 (0, 0)) (kB BK201)) : gb201 ≠ gb207)); have NB207_201 := Aside0.mk ((by rw [hg]; exact Nat.ne_of_gt (blk_lt (g := gb201) (o := .cells #[.slice none 0 0] 34 (0, 0)) (kB BK201)) : gb207 ≠ gb201)); replace BK201 := Aside0.mk (blk_below (g := gb201) (o := .cells #[.slice none 0 0] 34 (0, 0)) (kB BK201) hb); clear hb hbox hg; have hnb25 := NB207_200.out; have hnc25 := NB200_207.out; have hnb26 := NB207_201.out; have hnc26 := NB201_207.out; have hcz27_0 : w24.cell? ⟨gb207, 0, none⟩ = some (.slice none 0 0) := (blk_cell BK207.out 0).trans rfl; have hfz27_0 := blk_frozen BK207.out 0) | ((with_reducible refine gate_callee (f := 47) rfl ?_); refine goesL_ (some 23) rfl rfl Try.func47 (by kernel_rfl) rfl #[.int .i64 a1] rfl (by (try simp only [List.map_toArray, List.map_cons, List.map_nil]); first | done | rfl | (simp only [List.length_drop, List.length_take]; rfl)) ?_; (with_reducible refine (impl_bitsFor.calls kj2 a1 t208 _ A19.out).mono ?_); rintro e w28 ⟨v209, rfl, ho0, hb⟩; refine ⟨_, rfl, ?_⟩; replace HO206 := Aside0.mk (Kd.R_below (by (with_reducible repeat (first | apply Kd.R_alloc | apply Kd.R_drewN | apply Kd.R_drew)); exact (Kd.R_mono (Kd.R_far (p := ⟨gb207, 0, none⟩) (Kd.R_types HO206.out BK207.out (by decide)) (fun _ hk => hk.2) (.slice Ao23 t204.length co23)) (fun _ h_ => h_.1))) hb); have HO210 := Aside0.mk (Kd.R_lower ho0 (below_size (bB HB))); replace BK200 := Aside0.mk (blk_below (g := gb200) (o := .cells #[.slice A0_0 l0_0.length c0_0] 34 (0, 0)) (by (with_reducible repeat (first | refine blk_drewN ?_ _ | refine blk_drew ?_ | refine blk_alloc ?_ _)); refine blk_far ?_ NB200_207.out _; (with_reducible repeat (first | refine blk_drewN ?_ _ | refine blk_drew ?_ | refine blk_alloc ?_ _)); exact BK200.out) hb); replace BK201 := Aside0.mk (blk_below (g := gb201) (o := .cells #[.slice none 0 0] 34 (0, 0)) (by (with_reducible repeat (first | refine blk_drewN ?_ _ | refine blk_drew ?_ | refine blk_alloc ?_ _)); refine blk_far ?_ NB201_207.out _; (with_reducible repeat (first | refine blk_drewN ?_ _ | refine blk_drew ?_ | refine blk_alloc ?_ _)); exact BK201.out) hb); replace BK207 := Aside0.mk (blk_below (g := gb207) (o := .cells #[.slice Ao23 t204.length co23] 34 (0, 0)) (by (with_reducible repeat (first | refine blk_drewN ?_ _ | refine blk_drew ?_ | refine blk_alloc ?_ _)); refine blk_put (cs := #[.slice none 0 0]) ?_ 0 _ rfl; (with_reducible repeat (first | refine blk_drewN ?_ _ | refine blk_drew ?_ | refine blk_alloc ?_ _)); exact BK207.out) hb); replace HB := Aside0.mk (below_step (bB HB) hb); (try clear hb); (try clear hb2); (try clear hk); (try clear hi); (try clear ho0); obtain ⟨Ao29, co29, eo29⟩ := Kd.R_slice HO210.out; subst eo29))
    go_loopg [25] kj2 (fun kq v25 w' => ∃ (x25_2 : Int) (x208000_2 : List Bool) (u208000 : Value), v25 = .int .i64 x25_2 ∧ Aside0 (impl_PutFilter.l0 kq t208 (t208.length : Int) x25_2 x208000_2 = some (r1, r2)) ∧ Aside0 (kq ≤ kj2) ∧ Aside0 (Kd.R (Kd.int .i64) 3 w' w.heap.size (fun _ => True) (.slice Ao29 t208.length co29) t208) ∧ Aside0 (Kd.R Kd.bool 4 w' w.heap.size (fun _ => True) u208000 x208000_2) ∧ Aside0 (w'.heap[gb200]? = some (.cells #[(.slice A0_0 l0_0.length c0_0)] 34 (0, 0))) ∧ Aside0 (w'.heap[gb201]? = some (.cells #[(.slice none 0 0)] 34 (0, 0))) ∧ Aside0 (w'.heap[gb207]? = some (.cells #[u208000] 34 (0, 0))) ∧ Aside0 (Below w.heap.size w w'))
    case atStart => exact ⟨(0), (t204), (.slice Ao23 t204.length co23), (by first | rfl | (simp; done) | (simp [*]; done)), H', ⟨Nat.le_refl _⟩, ⟨by (with_reducible repeat (first | apply Kd.R_alloc | apply Kd.R_drewN | apply Kd.R_drew)); exact HO210.out⟩, ⟨by (with_reducible repeat (first | apply Kd.R_alloc | apply Kd.R_drewN | apply Kd.R_drew)); exact HO206.out⟩, ⟨by (with_reducible repeat (first | refine blk_drewN ?_ _ | refine blk_drew ?_ | refine blk_alloc ?_ _)); exact BK200.out⟩, ⟨by (with_reducible repeat (first | refine blk_drewN ?_ _ | refine blk_drew ?_ | refine blk_alloc ?_ _)); exact BK201.out⟩, ⟨by (with_reducible repeat (first | refine blk_drewN ?_ _ | refine blk_drew ?_ | refine blk_alloc ?_ _)); exact BK207.out⟩, ⟨bB HB⟩⟩
    case round =>
     clear H'
     try clear c1
     try clear c2
     try clear p2
     try clear c4
     try clear c5
     try clear c7
     try clear c9
     try clear c12
     try clear c15
     try clear c16
     try clear c20
     try clear c25
     try clear c26
     try clear c29
     try clear hcz10_0
     try clear hcz13_0
     try clear hcz17_0
     try clear hcz21_0
     try clear hcz27_0
     try clear hfz10_0
     try clear hfz13_0
     try clear hfz17_0
     try clear hfz21_0
     try clear hfz27_0
     try clear p2
     obtain ⟨x25_2, x208000_2, u208000, rfl, HA, HK2, HO_23, HO_208000, BK200, BK201, BK207, HB⟩ := hrel
     cases gk with
     | zero => exact absurd HA.out (by simp [impl_PutFilter.l0])
     | succ k2 =>
      have H := HA.out
      clear HA
      simp only [impl_PutFilter.l0] at H
      by_cases c30 : x25_2 < (t208.length : Int)
      ·rw [if_pos c30] at H
       have c30b0 : decide (x25_2 < (t208.length : Int)) = true := decide_eq_true c30
       clear c30
       by_cases c31 : 0 ≤ x25_2
       ·rw [if_pos c31] at H
        have c31b0 : decide (0 ≤ x25_2) = true := decide_eq_true c31
        clear c31
        by_cases c32 : x25_2 < (t208.length : Int)
        ·rw [if_pos c32] at H
         have c32b0 : decide (x25_2 < (t208.length : Int)) = true := decide_eq_true c32
         clear c32
         by_cases c33 : 0 ≤ (rd t208 x25_2)
         ·rw [if_pos c33] at H
          have c33b0 : decide (0 ≤ (rd t208 x25_2)) = true := decide_eq_true c33
          clear c33
          by_cases c34 : (rd t208 x25_2) < (x208000_2.length : Int)
          ·rw [if_pos c34] at H
           have c34b0 : decide ((rd t208 x25_2) < (x208000_2.length : Int)) = true := decide_eq_true c34
           clear c34
           obtain ⟨y212, hy212⟩ : ∃ y_ : List Bool, y_ = (x208000_2.set ((rd t208 x25_2) : Int).toNat true) := ⟨_, rfl⟩
           replace H : (impl_PutFilter.l0 k2 t208 (t208.length : Int) (wrap64 (x25_2 + 1)) y212) = some (r1, r2) := by first | (rw [hy212]; with_reducible exact H) | (have H2_ := (Option.bind_some _ _).symm.trans H; rw [hy212]; with_reducible exact H2_) | (have H2_ := (Option.bind_some _ _).symm.trans H; with_reducible exact H2_) | with_reducible exact H | (rw [hy212]; exact H) | exact H
           have Ny212 := Aside0.mk hy212
           clear hy212
           have H' := Aside0.mk H
           clear H
           have p211 : 0 ≤ (x25_2 : Int) := of_decide_eq_true (by first | (with_reducible assumption) | assumption)
           have q211 : x25_2 < (t208.length : Int) := of_decide_eq_true (by first | (with_reducible assumption) | assumption)
           obtain ⟨ad211, e211, hx211_0⟩ := Kd.at_int (Kd.R_reads' HO_23.out).2.2 x25_2 p211 q211
           cases e211
           replace p211 := eq_true p211
           replace q211 := eq_true q211
           have hnb36 := NB207_200.out
           have hnc36 := NB200_207.out
           have hnb37 := NB207_201.out
           have hnc37 := NB201_207.out
           have hcz38_0 : wr.cell? ⟨gb207, 0, none⟩ = some (u208000) := (blk_cell BK207.out 0).trans rfl
           have hfz38_0 := blk_frozen BK207.out 0
           have p35 : 0 ≤ ((rd t208 x25_2) : Int) := of_decide_eq_true (by first | (with_reducible assumption) | assumption)
           have q35 : ((rd t208 x25_2) : Int) < ((x208000_2.length : Int) : Int) := of_decide_eq_true (by first | (with_reducible assumption) | assumption)
           obtain ⟨go35, co35, eo35, gb35, gl35, cl35, HG35⟩ := Kd.R_form HO_208000.out (by omega)
           (first | cases eo35 | (injection eo35 with ea_ en_ ec_; (first | subst ea_ | (injection ea_ with ea_; subst ea_)); subst ec_; clear en_))
           have GB35 := Aside0.mk gb35
           have GG35 := Aside0.mk HG35
           clear gb35 gl35 HG35
           obtain ⟨hx35_0, hf35_0⟩ := Kd.R_celln false HO_208000.out ((rd t208 x25_2) : Int) p35 q35
           replace p35 := eq_true p35
           replace q35 := eq_true q35
           have HP39 := Kd.R_putg HO_208000.out ((rd t208 x25_2) : Int) true
           go_wp2_with (first | ((with_reducible refine gate_store (t := 4) (p := 32) rfl ?_); refine store_event (t := 4) (p := 32) (v := ?vo_w40) (w1 := (wr.setCell ⟨go35, ((rd t208 x25_2) : Int).toNat, none⟩ (.bool true))) ?hg ?ho ?hn ?hr ?_; (case ho => rfl); (case hg => rfl); (case hn => rfl); (case hr => first | (go_simp; done) | (go_simp; rfl)); intro w40 hw; have hg : wr.grownBy w40 (some go35) := (by rw [hw]; exact HP39.2); have hp_ : Kd.R Kd.bool 4 w40 w.heap.size (fun _ => True) (.slice (some ⟨go35, 0, none⟩) x208000_2.length co35) y212 := (by rw [hw, Ny212.out]; exact HP39.1); clear HP39; replace HO_23 := Aside0.mk (Kd.R_over' (v := (.slice (some ⟨go35, 0, none⟩) x208000_2.length co35)) (aR HO_23) (Kd.R_typed HO_208000.out) (by decide) hg); replace BK200 := Aside0.mk (blk_grown (g := gb200) (o := .cells #[.slice A0_0 l0_0.length c0_0] 34 (0, 0)) (kB BK200) hg (Kd.R_ne HO_208000.out BK200.out (by decide))); replace BK201 := Aside0.mk (blk_grown (g := gb201) (o := .cells #[.slice none 0 0] 34 (0, 0)) (kB BK201) hg (Kd.R_ne HO_208000.out BK201.out (by decide))); replace BK207 := Aside0.mk (blk_grown (g := gb207) (o := .cells #[.slice (some ⟨go35, 0, none⟩) x208000_2.length co35] 34 (0, 0)) (kB BK207) hg (Kd.R_ne HO_208000.out BK207.out (by decide))); replace HO_208000 := Aside0.mk (hp_); replace HB := Aside0.mk ((by rw [hw]; exact below_set (HB.out) GB35.out : Below w.heap.size w w40)); clear hg hw hp_))
           go_roundg k2
           case measure => have := HJ2.out; have := HK2.out; omega
           case rel => exact ⟨(wrap64 (x25_2 + 1)), (y212), (.slice (some ⟨go35, 0, none⟩) x208000_2.length co35), (by first | rfl | (simp; done) | (simp [*]; done)), H', ⟨by have := HJ2.out; have := HK2.out; omega⟩, ⟨by (with_reducible repeat (first | apply Kd.R_alloc | apply Kd.R_drewN | apply Kd.R_drew)); exact HO_23.out⟩, ⟨by (with_reducible repeat (first | apply Kd.R_alloc | apply Kd.R_drewN | apply Kd.R_drew)); exact HO_208000.out⟩, ⟨by (with_reducible repeat (first | refine blk_drewN ?_ _ | refine blk_drew ?_ | refine blk_alloc ?_ _)); exact BK200.out⟩, ⟨by (with_reducible repeat (first | refine blk_drewN ?_ _ | refine blk_drew ?_ | refine blk_alloc ?_ _)); exact BK201.out⟩, ⟨by (with_reducible repeat (first | refine blk_drewN ?_ _ | refine blk_drew ?_ | refine blk_alloc ?_ _)); exact BK207.out⟩, ⟨bB HB⟩⟩
          ·rw [if_neg c34] at H
           exact absurd H (by simp)
         ·rw [if_neg c33] at H
          exact absurd H (by simp)
        ·rw [if_neg c32] at H
         exact absurd H (by simp)
       ·rw [if_neg c31] at H
        exact absurd H (by simp)
      ·rw [if_neg c30] at H
       have c30b0 : decide (x25_2 < (t208.length : Int)) = false := decide_eq_false c30
       clear c30
       simp only [Option.some.injEq, Prod.mk.injEq] at H
       obtain ⟨rfl, rfl⟩ := H
       have hnb41 := NB207_200.out
       have hnc41 := NB200_207.out
       have hnb42 := NB207_201.out
       have hnc42 := NB201_207.out
       have hcz43_0 : wr.cell? ⟨gb207, 0, none⟩ = some (u208000) := (blk_cell BK207.out 0).trans rfl
       have hfz43_0 := blk_frozen BK207.out 0
       obtain ⟨Ao44, co44, eo44⟩ := Kd.R_slice HO_208000.out
       subst eo44
       have hnb45 := NB201_200.out
       have hnc45 := NB200_201.out
       have hcz46_0 : wr.cell? ⟨gb201, 0, none⟩ = some (.slice none 0 0) := (blk_cell BK201.out 0).trans rfl
       have hfz46_0 := blk_frozen BK201.out 0
       go_wp2
       refine bodyPost_ret (results_ct rfl _ _ gb201 34 #[.slice Ao44 x208000_2.length co44] (0, 0) _ rfl (by (with_reducible repeat (first | refine blk_drewN ?_ _ | refine blk_drew ?_ | refine blk_alloc ?_ _)); refine blk_put (cs := #[.slice none 0 0]) ?_ 0 _ rfl; (with_reducible repeat (first | refine blk_drewN ?_ _ | refine blk_drew ?_ | refine blk_alloc ?_ _)); exact BK201.out) Try.underlying34 rfl (by kernel_rfl)) rfl ?_
       exact ⟨_, by first | rfl | (simp [errW_none, errW_some] <;> rfl) | (simp [*, errW_none, errW_some] <;> rfl), by (with_reducible repeat (first | apply Kd.R_alloc | apply Kd.R_drewN | apply Kd.R_drew)); exact Kd.R_mono (Kd.R_far (p := ⟨gb201, 0, none⟩) (Kd.R_types HO_208000.out BK201.out (by decide)) (fun _ hk => hk.2) (.slice Ao44 x208000_2.length co44)) (fun _ hk => trivial), bB HB⟩

/-! ### impl_NewFilter: function 41 -/
def impl_NewFilter.f  : Option (List Bool) := if 64 ≤ 281474976710656 then (some (List.replicate 64 false)) else (none)
set_option maxHeartbeats 8000000 in
set_option maxRecDepth 100000 in
theorem impl_NewFilter.calls  (r : List Bool) (w : World) (h : impl_NewFilter.f  = some r) :
  Calls Try.prog 41 #[] w fun e w' => ∃ v0_ : Value, e = .returned (.agg #[v0_]) ∧ Kd.R Kd.bool 4 w' w.heap.size (fun _ => True) v0_ r ∧ Below w.heap.size w w' := by
 have hu34 := Try.underlying34
 have HB := Aside0.mk (Below.refl w.heap.size w)
 have H : (if 64 ≤ 281474976710656 then (some (List.replicate 64 false)) else (none)) = some r := h
 clear h
 by_cases c1 : 64 ≤ 281474976710656
 ·rw [if_pos c1] at H
  have c1b0 := eq_true c1
  have c1b1 : decide (64 ≤ 281474976710656) = true := decide_eq_true c1
  clear c1
  obtain ⟨y214, hy214⟩ : ∃ y_ : List Bool, y_ = (List.replicate 64 false) := ⟨_, rfl⟩
  replace H : (some y214) = some r := by first | (rw [hy214]; with_reducible exact H) | (have H2_ := (Option.bind_some _ _).symm.trans H; rw [hy214]; with_reducible exact H2_) | (have H2_ := (Option.bind_some _ _).symm.trans H; with_reducible exact H2_) | with_reducible exact H | (rw [hy214]; exact H) | exact H
  have Ny214 := Aside0.mk hy214
  clear hy214
  obtain rfl := Option.some.inj H
  go_enter Try.func41, Try.ntmps41
  go_wp2_with (first | ((with_reducible refine gate_dst (N := 0) rfl ?_); refine box_event ?hg (N := 0) ?hd (cs := #[.slice none 0 0]) (t := 34) ?hr ?_; (case hd => rfl); (case hg => rfl); (case hr => first | (go_simp; done) | (go_simp; rfl)); intro gb213 hg w2 hbox hb; have BK213 := Aside0.mk (hbox); have GW213 := Aside0.mk ((by rw [hg]; exact (below_size (bB HB)) : w.heap.size ≤ gb213)); have GE213 := Aside0.mk ((by rw [hg]; exact (below_size (bB HB)) : w.heap.size ≤ gb213)); replace HB := Aside0.mk (below_step (bB HB) hb); clear hb hbox hg) | ((with_reducible refine gate_dst (N := 1) rfl ?_); refine Kd.R_make Kd.bool _ 4 rfl (N := 1) rfl 28 _ _ rfl 64 rfl rfl Try.underlying28 (.bool false) 1 info4 rfl (by decide) (by omega) false (ok := fun _ => True) (okp := fun _ => True) rfl (fun _ hk => hk) trivial (by omega) (by omega) (Below.refl _ _) (Nat.le_refl _) ?_; intro v215 w3 ho4 hb hg_ hnew_; clear hg_ hnew_; (first | rw [← Ny214.out] at ho4 | (simp only [Int.reduceToNat] at ho4; rw [← Ny214.out] at ho4)); have HO216 := Aside0.mk (Kd.R_lower ho4 (below_size (bB HB))); replace BK213 := Aside0.mk (blk_below (g := gb213) (o := .cells #[.slice none 0 0] 34 (0, 0)) (kB BK213) hb); replace HB := Aside0.mk (below_step (bB HB) hb); clear hb ho4; obtain ⟨Ao5, co5, eo5⟩ := Kd.R_slice HO216.out; subst eo5; have hcz6_0 : w3.cell? ⟨gb213, 0, none⟩ = some (.slice none 0 0) := (blk_cell BK213.out 0).trans rfl; have hfz6_0 := blk_frozen BK213.out 0))
  refine bodyPost_ret (results_cell_row rfl _ _ gb213 34 #[.slice Ao5 y214.length co5] (0, 0) _ rfl (by (with_reducible repeat (first | refine blk_drewN ?_ _ | refine blk_drew ?_ | refine blk_alloc ?_ _)); refine blk_put (cs := #[.slice none 0 0]) ?_ 0 _ rfl; (with_reducible repeat (first | refine blk_drewN ?_ _ | refine blk_drew ?_ | refine blk_alloc ?_ _)); exact BK213.out) Try.underlying34 rfl (by kernel_rfl)) rfl ?_
  exact ⟨_, by first | rfl | (simp [errW_none, errW_some] <;> rfl) | (simp [*, errW_none, errW_some] <;> rfl), by (with_reducible repeat (first | apply Kd.R_alloc | apply Kd.R_drewN | apply Kd.R_drew)); exact Kd.R_mono (Kd.R_far (p := ⟨gb213, 0, none⟩) (Kd.R_types HO216.out BK213.out (by decide)) (fun _ hk => hk.2) (.slice Ao5 y214.length co5)) (fun _ hk => trivial), bB HB⟩
 ·rw [if_neg c1] at H
  exact absurd H (by simp)

/-! ### impl_FilterOf: function 25 -/
def impl_FilterOf.l0 : Nat → List Int → Int → Int → List Bool → Option (List Bool × Bool)
 | 0, _, _, _, _ => none
 | k + 1, x13, x14, x15, x222000 => if x15 < x14 then (if 0 ≤ x15 then (if x15 < (x13.length : Int) then ((impl_PutFilter.f k x222000 (rd x13 x15)).bind fun bt223 => (if bt223.2 = true then (impl_FilterOf.l0 k x13 x14 (wrap64 (x15 + 1)) bt223.1) else (some (([] : List Bool), false)))) else (none)) else (none)) else (some (x222000, true))
def impl_FilterOf.f (k : Nat) (l0 : List Int) : Option (List Bool × Bool) := if (l0.length : Int) > 80 then (some (([] : List Bool), false)) else ((impl_NewFilter.f).bind fun t218 => (impl_FilterOf.l0 k l0 (l0.length : Int) 0 t218))
theorem impl_FilterOf.mono_l : ∀ k, (∀ y0 y1 y2 y3, LeO (impl_FilterOf.l0 k y0 y1 y2 y3) (impl_FilterOf.l0 (k + 1) y0 y1 y2 y3))
 | 0 => fun _ _ _ _ r h => by simp [impl_FilterOf.l0] at h
 | k + 1 => by
  have ih0 := impl_FilterOf.mono_l k
  ·intro y0 y1 y2 y3
   unfold impl_FilterOf.l0
   repeat' first
   | (with_reducible exact ih0 _ _ _ _)
   | (with_reducible exact impl_PutFilter.mono _ _ _)
   | (with_reducible exact LeO.refl _)
   | (with_reducible exact LeO.none _)
   | (with_reducible refine LeO.ite ?_ ?_)
   | (with_reducible refine LeO.bind ?_ (fun _ => ?_))
   | exact ih0 _ _ _ _
   | exact impl_PutFilter.mono _ _ _
   | exact LeO.none _
   | refine LeO.ite ?_ ?_
   | refine LeO.bind ?_ (fun _ => ?_)
theorem impl_FilterOf.mono : ∀ a0 k, LeO (impl_FilterOf.f k a0) (impl_FilterOf.f (k + 1) a0) := by
 intro a0 k
 have ih0 := impl_FilterOf.mono_l k
 unfold impl_FilterOf.f
 repeat' first
   | (with_reducible exact ih0 _ _ _ _)
   | (with_reducible exact impl_PutFilter.mono _ _ _)
   | (with_reducible exact LeO.refl _)
   | (with_reducible exact LeO.none _)
   | (with_reducible refine LeO.ite ?_ ?_)
   | (with_reducible refine LeO.bind ?_ (fun _ => ?_))
   | exact ih0 _ _ _ _
   | exact impl_PutFilter.mono _ _ _
   | exact LeO.none _
   | refine LeO.ite ?_ ?_
   | refine LeO.bind ?_ (fun _ => ?_)
set_option maxHeartbeats 8000000 in
set_option maxRecDepth 100000 in
theorem impl_FilterOf.calls (k : Nat) (A0 : Option Addr) (c0 : Nat) (l0 : List Int) (r1 : List Bool) (r2 : Bool) (w : World) (hr0 : Kd.C (Kd.int .i64) w A0 l0.length l0) (hc0 : l0.length ≤ c0) (h : impl_FilterOf.f k l0 = some (r1, r2)) :
  Calls Try.prog 25 #[.slice A0 l0.length c0] w fun e w' => ∃ v0_ : Value, e = .returned (.tuple #[.agg #[v0_], .bool r2]) ∧ Kd.R Kd.bool 4 w' w.heap.size (fun _ => True) v0_ r1 ∧ Below w.heap.size w w' := by
 have hu34 := Try.underlying34
 have HR0 := Aside0.mk hr0
 have HC0 := Aside0.mk hc0
 clear hr0 hc0
 have HB := Aside0.mk (Below.refl w.heap.size w)
 have H : (if (l0.length : Int) > 80 then (some (([] : List Bool), false)) else ((impl_NewFilter.f).bind fun t218 => (impl_FilterOf.l0 k l0 (l0.length : Int) 0 t218))) = some (r1, r2) := h
 clear h
 by_cases c2 : (l0.length : Int) > 80
 ·rw [if_pos c2] at H
  have c2b0 : decide (80 < (l0.length : Int)) = true := decide_eq_true c2
  have c2b1 : decide (80 < l0.length) = true := decide_eq_true (by omega)
  clear c2
  simp only [Option.some.injEq, Prod.mk.injEq] at H
  obtain ⟨rfl, rfl⟩ := H
  go_enter Try.func25, Try.ntmps25
  go_wp2_with (first | ((with_reducible refine gate_dst (N := 2) rfl ?_); refine box_event ?hg (N := 2) ?hd (cs := #[.slice none 0 0]) (t := 34) ?hr ?_; (case hd => rfl); (case hg => rfl); (case hr => first | (go_simp; done) | (go_simp; rfl)); intro gb217 hg w3 hbox hb; have BK217 := Aside0.mk (hbox); have GW217 := Aside0.mk ((by rw [hg]; exact (below_size (bB HB)) : w.heap.size ≤ gb217)); have GE217 := Aside0.mk ((by rw [hg]; exact (below_size (bB HB)) : w.heap.size ≤ gb217)); replace HB := Aside0.mk (below_step (bB HB) hb); clear hb hbox hg; have hcz4_0 : w3.cell? ⟨gb217, 0, none⟩ = some (.slice none 0 0) := (blk_cell BK217.out 0).trans rfl; have hfz4_0 := blk_frozen BK217.out 0))
  refine bodyPost_ret (results_ct rfl _ _ gb217 34 #[.slice none 0 0] (0, 0) _ rfl (by (with_reducible repeat (first | refine blk_drewN ?_ _ | refine blk_drew ?_ | refine blk_alloc ?_ _)); refine blk_put (cs := #[.slice none 0 0]) ?_ 0 _ rfl; (with_reducible repeat (first | refine blk_drewN ?_ _ | refine blk_drew ?_ | refine blk_alloc ?_ _)); exact BK217.out) Try.underlying34 rfl (by kernel_rfl)) rfl ?_
  exact ⟨_, by first | rfl | (simp [errW_none, errW_some] <;> rfl) | (simp [*, errW_none, errW_some] <;> rfl), by first | exact Kd.R_nil _ _ _ _ _ | exact Kd.N_nil _ _ _ _ _ | exact Kd.V_nil _ _ _ _ _ | exact Kd.Q_nil _ _ _ _ _ | exact Kd.S_nil _ _ _ _ _, bB HB⟩
 ·rw [if_neg c2] at H
  have c2b0 : decide (80 < (l0.length : Int)) = false := decide_eq_false c2
  have c2b1 : decide (80 < l0.length) = false := decide_eq_false (by omega)
  clear c2
  replace H := Option.bind_eq_some_iff.mp H
  obtain ⟨t218, A50, H⟩ := H
  replace H : (impl_FilterOf.l0 k l0 (l0.length : Int) 0 t218) = some (r1, r2) := H
  have A5 := Aside0.mk A50
  clear A50
  have H' := Aside0.mk H
  clear H
  go_enter Try.func25, Try.ntmps25
  go_wp2_with (first | ((with_reducible refine gate_dst (N := 2) rfl ?_); refine box_event ?hg (N := 2) ?hd (cs := #[.slice none 0 0]) (t := 34) ?hr ?_; (case hd => rfl); (case hg => rfl); (case hr => first | (go_simp; done) | (go_simp; rfl)); intro gb217 hg w6 hbox hb; have BK217 := Aside0.mk (hbox); have GW217 := Aside0.mk ((by rw [hg]; exact (below_size (bB HB)) : w.heap.size ≤ gb217)); have GE217 := Aside0.mk ((by rw [hg]; exact (below_size (bB HB)) : w.heap.size ≤ gb217)); replace HB := Aside0.mk (below_step (bB HB) hb); clear hb hbox hg) | ((with_reducible refine gate_callee (f := 41) rfl ?_); refine goesL_ (some 12) rfl rfl Try.func41 (by kernel_rfl) rfl #[] rfl (by (try simp only [List.map_toArray, List.map_cons, List.map_nil]); first | done | rfl | (simp only [List.length_drop, List.length_take]; rfl)) ?_; (with_reducible refine (impl_NewFilter.calls  t218 _ A5.out).mono ?_); rintro e w7 ⟨v219, rfl, ho0, hb⟩; refine ⟨_, rfl, ?_⟩; have HO220 := Aside0.mk (Kd.R_lower ho0 (below_size (bB HB))); replace BK217 := Aside0.mk (blk_below (g := gb217) (o := .cells #[.slice none 0 0] 34 (0, 0)) (kB BK217) hb); replace HB := Aside0.mk (below_step (bB HB) hb); (try clear hb); (try clear hb2); (try clear hk); (try clear hi); (try clear ho0)) | ((with_reducible refine gate_dst (N := 4) rfl ?_); refine box_event ?hg (N := 4) ?hd (cs := #[.slice none 0 0]) (t := 34) ?hr ?_; (case hd => rfl); (case hg => rfl); (case hr => first | (go_simp; done) | (go_simp; rfl)); intro gb221 hg w8 hbox hb; replace HO220 := Aside0.mk (Kd.R_below (aR HO220) hb); have BK221 := Aside0.mk (hbox); have GW221 := Aside0.mk ((by rw [hg]; exact (below_size (bB HB)) : w.heap.size ≤ gb221)); have GE221 := Aside0.mk ((by rw [hg]; exact (below_size (bB HB)) : w.heap.size ≤ gb221)); replace HB := Aside0.mk (below_step (bB HB) hb); have NB217_221 := Aside0.mk ((by rw [hg]; exact Nat.ne_of_lt (blk_lt (g := gb217) (o := .cells #[.slice none 0 0] 34 (0, 0)) (kB BK217)) : gb217 ≠ gb221)); have NB221_217 := Aside0.mk ((by rw [hg]; exact Nat.ne_of_gt (blk_lt (g := gb217) (o := .cells #[.slice none 0 0] 34 (0, 0)) (kB BK217)) : gb221 ≠ gb217)); replace BK217 := Aside0.mk (blk_below (g := gb217) (o := .cells #[.slice none 0 0] 34 (0, 0)) (kB BK217) hb); clear hb hbox hg; obtain ⟨Ao9, co9, eo9⟩ := Kd.R_slice HO220.out; subst eo9; have hnb10 := NB221_217.out; have hnc10 := NB217_221.out; have hcz11_0 : w8.cell? ⟨gb221, 0, none⟩ = some (.slice none 0 0) := (blk_cell BK221.out 0).trans rfl; have hfz11_0 := blk_frozen BK221.out 0))
  go_loopg [15] k (fun kq v15 w' => ∃ (x15_1 : Int) (x222000_1 : List Bool) (u222000 : Value), v15 = .int .i64 x15_1 ∧ Aside0 (impl_FilterOf.l0 kq l0 (l0.length : Int) x15_1 x222000_1 = some (r1, r2)) ∧ Aside0 (kq ≤ k) ∧ Aside0 (Kd.R Kd.bool 4 w' w.heap.size (fun _ => True) u222000 x222000_1) ∧ Aside0 (w'.heap[gb217]? = some (.cells #[(.slice none 0 0)] 34 (0, 0))) ∧ Aside0 (w'.heap[gb221]? = some (.cells #[u222000] 34 (0, 0))) ∧ Aside0 (Below w.heap.size w w'))
  case atStart => exact ⟨(0), (t218), (.slice Ao9 t218.length co9), (by first | rfl | (simp; done) | (simp [*]; done)), H', ⟨Nat.le_refl _⟩, ⟨by (with_reducible repeat (first | apply Kd.R_alloc | apply Kd.R_drewN | apply Kd.R_drew)); exact Kd.R_mono (Kd.R_far (p := ⟨gb221, 0, none⟩) (Kd.R_types HO220.out BK221.out (by decide)) (fun _ hk => hk.2) (.slice Ao9 t218.length co9)) (fun _ hk => trivial)⟩, ⟨by (with_reducible repeat (first | refine blk_drewN ?_ _ | refine blk_drew ?_ | refine blk_alloc ?_ _)); refine blk_far ?_ NB217_221.out _; (with_reducible repeat (first | refine blk_drewN ?_ _ | refine blk_drew ?_ | refine blk_alloc ?_ _)); exact BK217.out⟩, ⟨by (with_reducible repeat (first | refine blk_drewN ?_ _ | refine blk_drew ?_ | refine blk_alloc ?_ _)); refine blk_put (cs := #[.slice none 0 0]) ?_ 0 _ rfl; (with_reducible repeat (first | refine blk_drewN ?_ _ | refine blk_drew ?_ | refine blk_alloc ?_ _)); exact BK221.out⟩, ⟨bB HB⟩⟩
  case round =>
   clear H'
   try clear c1
   try clear c2
   try clear c2b0
   try clear c2b1
   try clear p2
   try clear c4
   try clear c10
   try clear hcz11_0
   try clear hcz4_0
   try clear hfz11_0
   try clear hfz4_0
   obtain ⟨x15_1, x222000_1, u222000, rfl, HA, HK1, HO_222000, BK217, BK221, HB⟩ := hrel
   cases gk with
   | zero => exact absurd HA.out (by simp [impl_FilterOf.l0])
   | succ k1 =>
    have H := HA.out
    clear HA
    simp only [impl_FilterOf.l0] at H
    by_cases c12 : x15_1 < (l0.length : Int)
    ·rw [if_pos c12] at H
     have c12b0 : decide (x15_1 < (l0.length : Int)) = true := decide_eq_true c12
     clear c12
     by_cases c13 : 0 ≤ x15_1
     ·rw [if_pos c13] at H
      have c13b0 : decide (0 ≤ x15_1) = true := decide_eq_true c13
      clear c13
      by_cases c14 : x15_1 < (l0.length : Int)
      ·rw [if_pos c14] at H
       have c14b0 : decide (x15_1 < (l0.length : Int)) = true := decide_eq_true c14
       clear c14
       replace H := Option.bind_eq_some_iff.mp H
       obtain ⟨⟨t223, t226⟩, A150, H⟩ := H
       replace H : (if t226 = true then (impl_FilterOf.l0 k1 l0 (l0.length : Int) (wrap64 (x15_1 + 1)) t223) else (some (([] : List Bool), false))) = some (r1, r2) := H
       have A15 := Aside0.mk A150
       clear A150
       by_cases c16 : t226 = true
       ·subst c16
        have H1 : (impl_FilterOf.l0 k1 l0 (l0.length : Int) (wrap64 (x15_1 + 1)) t223) = some (r1, r2) := by rw [if_pos rfl] at H; exact H
        clear H
        have H := H1
        clear H1
        have H' := Aside0.mk H
        clear H
        have p222 : 0 ≤ (x15_1 : Int) := of_decide_eq_true (by first | (with_reducible assumption) | assumption)
        have q222 : x15_1 < (l0.length : Int) := of_decide_eq_true (by first | (with_reducible assumption) | assumption)
        obtain ⟨ad222, e222, hx222_0⟩ := Kd.at_int HR0.out x15_1 p222 q222
        cases e222
        replace hx222_0 := (HB.out.cell (World.block_lt_of_cell? w _ hx222_0)).trans hx222_0
        replace p222 := eq_true p222
        replace q222 := eq_true q222
        have hnb17 := NB221_217.out
        have hnc17 := NB217_221.out
        have hcz18_0 : wr.cell? ⟨gb221, 0, none⟩ = some (u222000) := (blk_cell BK221.out 0).trans rfl
        have hfz18_0 := blk_frozen BK221.out 0
        obtain ⟨Ao19, co19, eo19⟩ := Kd.R_slice HO_222000.out
        subst eo19
        go_wp2_with (first | ((with_reducible refine gate_callee (f := 20) rfl ?_); refine goesL_ (some 22) rfl rfl Try.func20 (by kernel_rfl) rfl #[.agg #[.slice Ao19 x222000_1.length co19], .int .i64 (rd l0 x15_1)] rfl (by (try simp only [List.map_toArray, List.map_cons, List.map_nil]); first | done | rfl | (simp only [List.length_drop, List.length_take]; rfl)) ?_; (with_reducible refine (impl_PutFilter.calls k1 _ _ x222000_1 (rd l0 x15_1) t223 true _ ?side1 ?side2 A15.out).mono ?_); (case side1 => repeat (first | exact (Kd.R_reads' HO_222000.out).2.2 | (with_reducible refine Kd.C_alloc ?_ _) | (with_reducible refine Kd.C_drewN ?_ _) | (with_reducible refine Kd.C_drew ?_))); (case side2 => exact (Kd.R_reads' HO_222000.out).2.1); rintro e w20 ⟨v224, rfl, ho0, hb⟩; refine ⟨_, rfl, ?_⟩; have HO225 := Aside0.mk (Kd.R_lower (Kd.R_new' ho0 (Kd.R_lt (aR HO_222000))) (below_size (bB HB))); replace HO_222000 := Aside0.mk (Kd.R_elder' (aR HO_222000) (Kd.R_base ho0) hb); replace BK217 := Aside0.mk (blk_below (g := gb217) (o := .cells #[.slice none 0 0] 34 (0, 0)) (kB BK217) hb); replace BK221 := Aside0.mk (blk_below (g := gb221) (o := .cells #[.slice Ao19 x222000_1.length co19] 34 (0, 0)) (kB BK221) hb); replace HB := Aside0.mk (below_step (bB HB) hb); (try clear hb); (try clear hb2); (try clear hk); (try clear hi); (try clear ho0); obtain ⟨Ao21, co21, eo21⟩ := Kd.R_slice HO225.out; subst eo21; have hcz22_0 : w20.cell? ⟨gb221, 0, none⟩ = some (.slice Ao19 x222000_1.length co19) := (blk_cell BK221.out 0).trans rfl; have hfz22_0 := blk_frozen BK221.out 0))
        go_roundg k1
        case measure => have := HK1.out; omega
        case rel => exact ⟨(wrap64 (x15_1 + 1)), (t223), (.slice Ao21 t223.length co21), (by first | rfl | (simp; done) | (simp [*]; done)), H', ⟨by have := HK1.out; omega⟩, ⟨by (with_reducible repeat (first | apply Kd.R_alloc | apply Kd.R_drewN | apply Kd.R_drew)); exact Kd.R_mono (Kd.R_far (p := ⟨gb221, 0, none⟩) (Kd.R_types HO225.out BK221.out (by decide)) (fun _ hk => hk.2) (.slice Ao21 t223.length co21)) (fun _ hk => trivial)⟩, ⟨by (with_reducible repeat (first | refine blk_drewN ?_ _ | refine blk_drew ?_ | refine blk_alloc ?_ _)); refine blk_far ?_ NB217_221.out _; (with_reducible repeat (first | refine blk_drewN ?_ _ | refine blk_drew ?_ | refine blk_alloc ?_ _)); exact BK217.out⟩, ⟨by (with_reducible repeat (first | refine blk_drewN ?_ _ | refine blk_drew ?_ | refine blk_alloc ?_ _)); refine blk_put (cs := #[.slice Ao19 x222000_1.length co19]) ?_ 0 _ rfl; (with_reducible repeat (first | refine blk_drewN ?_ _ | refine blk_drew ?_ | refine blk_alloc ?_ _)); exact BK221.out⟩, ⟨bB HB⟩⟩
       ·replace c16 := Bool.eq_false_iff.mpr c16
        subst c16
        have H1 : (some (([] : List Bool), false)) = some (r1, r2) := by rw [if_neg (show ¬ (false = true) by decide)] at H; exact H
        clear H
        have H := H1
        clear H1
        simp only [Option.some.injEq, Prod.mk.injEq] at H
        obtain ⟨rfl, rfl⟩ := H
        have p222 : 0 ≤ (x15_1 : Int) := of_decide_eq_true (by first | (with_reducible assumption) | assumption)
        have q222 : x15_1 < (l0.length : Int) := of_decide_eq_true (by first | (with_reducible assumption) | assumption)
        obtain ⟨ad222, e222, hx222_0⟩ := Kd.at_int HR0.out x15_1 p222 q222
        cases e222
        replace hx222_0 := (HB.out.cell (World.block_lt_of_cell? w _ hx222_0)).trans hx222_0
        replace p222 := eq_true p222
        replace q222 := eq_true q222
        have hnb23 := NB221_217.out
        have hnc23 := NB217_221.out
        have hcz24_0 : wr.cell? ⟨gb221, 0, none⟩ = some (u222000) := (blk_cell BK221.out 0).trans rfl
        have hfz24_0 := blk_frozen BK221.out 0
        obtain ⟨Ao25, co25, eo25⟩ := Kd.R_slice HO_222000.out
        subst eo25
        go_wp2_with (first | ((with_reducible refine gate_callee (f := 20) rfl ?_); refine goesL_ (some 22) rfl rfl Try.func20 (by kernel_rfl) rfl #[.agg #[.slice Ao25 x222000_1.length co25], .int .i64 (rd l0 x15_1)] rfl (by (try simp only [List.map_toArray, List.map_cons, List.map_nil]); first | done | rfl | (simp only [List.length_drop, List.length_take]; rfl)) ?_; (with_reducible refine (impl_PutFilter.calls k1 _ _ x222000_1 (rd l0 x15_1) t223 false _ ?side1 ?side2 A15.out).mono ?_); (case side1 => repeat (first | exact (Kd.R_reads' HO_222000.out).2.2 | (with_reducible refine Kd.C_alloc ?_ _) | (with_reducible refine Kd.C_drewN ?_ _) | (with_reducible refine Kd.C_drew ?_))); (case side2 => exact (Kd.R_reads' HO_222000.out).2.1); rintro e w26 ⟨v224, rfl, ho0, hb⟩; refine ⟨_, rfl, ?_⟩; have HO225 := Aside0.mk (Kd.R_lower (Kd.R_new' ho0 (Kd.R_lt (aR HO_222000))) (below_size (bB HB))); replace HO_222000 := Aside0.mk (Kd.R_elder' (aR HO_222000) (Kd.R_base ho0) hb); replace BK217 := Aside0.mk (blk_below (g := gb217) (o := .cells #[.slice none 0 0] 34 (0, 0)) (kB BK217) hb); replace BK221 := Aside0.mk (blk_below (g := gb221) (o := .cells #[.slice Ao25 x222000_1.length co25] 34 (0, 0)) (kB BK221) hb); replace HB := Aside0.mk (below_step (bB HB) hb); (try clear hb); (try clear hb2); (try clear hk); (try clear hi); (try clear ho0); obtain ⟨Ao27, co27, eo27⟩ := Kd.R_slice HO225.out; subst eo27; have hcz28_0 : w26.cell? ⟨gb221, 0, none⟩ = some (.slice Ao25 x222000_1.length co25) := (blk_cell BK221.out 0).trans rfl; have hfz28_0 := blk_frozen BK221.out 0; have hcz29_0 : w26.cell? ⟨gb217, 0, none⟩ = some (.slice none 0 0) := (blk_cell BK217.out 0).trans rfl; have hfz29_0 := blk_frozen BK217.out 0))
        refine bodyPost_ret (results_ct rfl _ _ gb217 34 #[.slice none 0 0] (0, 0) _ rfl (by (with_reducible repeat (first | refine blk_drewN ?_ _ | refine blk_drew ?_ | refine blk_alloc ?_ _)); refine blk_put (cs := #[.slice none 0 0]) ?_ 0 _ rfl; (with_reducible repeat (first | refine blk_drewN ?_ _ | refine blk_drew ?_ | refine blk_alloc ?_ _)); refine blk_far ?_ NB217_221.out _; (with_reducible repeat (first | refine blk_drewN ?_ _ | refine blk_drew ?_ | refine blk_alloc ?_ _)); exact BK217.out) Try.underlying34 rfl (by kernel_rfl)) rfl ?_
        exact ⟨_, by first | rfl | (simp [errW_none, errW_some] <;> rfl) | (simp [*, errW_none, errW_some] <;> rfl), by first | exact Kd.R_nil _ _ _ _ _ | exact Kd.N_nil _ _ _ _ _ | exact Kd.V_nil _ _ _ _ _ | exact Kd.Q_nil _ _ _ _ _ | exact Kd.S_nil _ _ _ _ _, bB HB⟩
      ·rw [if_neg c14] at H
       exact absurd H (by simp)
     ·rw [if_neg c13] at H
      exact absurd H (by simp)
    ·rw [if_neg c12] at H
     have c12b0 : decide (x15_1 < (l0.length : Int)) = false := decide_eq_false c12
     clear c12
     simp only [Option.some.injEq, Prod.mk.injEq] at H
     obtain ⟨rfl, rfl⟩ := H
     have hnb30 := NB221_217.out
     have hnc30 := NB217_221.out
     have hcz31_0 : wr.cell? ⟨gb221, 0, none⟩ = some (u222000) := (blk_cell BK221.out 0).trans rfl
     have hfz31_0 := blk_frozen BK221.out 0
     obtain ⟨Ao32, co32, eo32⟩ := Kd.R_slice HO_222000.out
     subst eo32
     have hcz33_0 : wr.cell? ⟨gb217, 0, none⟩ = some (.slice none 0 0) := (blk_cell BK217.out 0).trans rfl
     have hfz33_0 := blk_frozen BK217.out 0
     go_wp2
     refine bodyPost_ret (results_ct rfl _ _ gb217 34 #[.slice Ao32 x222000_1.length co32] (0, 0) _ rfl (by (with_reducible repeat (first | refine blk_drewN ?_ _ | refine blk_drew ?_ | refine blk_alloc ?_ _)); refine blk_put (cs := #[.slice none 0 0]) ?_ 0 _ rfl; (with_reducible repeat (first | refine blk_drewN ?_ _ | refine blk_drew ?_ | refine blk_alloc ?_ _)); exact BK217.out) Try.underlying34 rfl (by kernel_rfl)) rfl ?_
     exact ⟨_, by first | rfl | (simp [errW_none, errW_some] <;> rfl) | (simp [*, errW_none, errW_some] <;> rfl), by (with_reducible repeat (first | apply Kd.R_alloc | apply Kd.R_drewN | apply Kd.R_drew)); exact Kd.R_mono (Kd.R_far (p := ⟨gb217, 0, none⟩) (Kd.R_types HO_222000.out BK217.out (by decide)) (fun _ hk => hk.2) (.slice Ao32 x222000_1.length co32)) (fun _ hk => trivial), bB HB⟩

end Go.Proofs.Ytlieapaegmjhnaa.XFnExactFilterOf
