-- Written by xprint.py of this session: out of the translation, by the kit's print with contracts of this session.
import Derived.Test.YtflmebbcgbejfaaXFnExactMeetFiltersx0
import Derived.Test.YtflmebbcgbejfaaXFnExactMeetFiltersx1
import Derived.Test.YtflmebbcgbejfaaXFnExactMeetFiltersx2
import Derived.Test.YtflmebbcgbejfaaXFnExactMeetFiltersx3
namespace Go.Proofs.Ytflmebbcgbejfaa.XFnExactMeetFilters
open Go.RowKit Go.Proofs.YtflmebbcgbejfaaW.PrintWords Go.Proofs.YtflmebbcgbejfaaW.PrintLast Go.Proofs.YtflmebbcgbejfaaW.PrintMore
open Go.Proofs.Ytflmebbcgbejfaa.Min0
attribute [local go_sem] max2_int min2_int max_two min_two max_three min_three max_four min_four   -- for this text's walks alone
set_option linter.unusedVariables false
set_option linter.unusedSimpArgs false

/-! ### laws_FnExactMeetFilters: function 8 -/
def laws_FnExactMeetFilters.f (k : Nat) (l0_0 : List Bool) (l1_0 : List Bool) : Option (Bool) := (laws_szFilter.f l0_0 1048576).bind fun t175 => (if t175 < 0 then (some true) else ((laws_szFilter.f l1_0 t175).bind fun t176 => (if t176 < 0 then (some true) else ((laws_toFilter.f k l0_0).bind fun t177 => ((laws_toFilter.f k l1_0).bind fun t180 => ((spec_MeetFilters.f k t177 t180).bind fun bt183 => ((laws_toFilter.f k l0_0).bind fun t188 => ((laws_toFilter.f k l1_0).bind fun t192 => ((impl_MeetFilters.f k t188 t192).bind fun bt196 => ((laws_eqFilter.f k bt196.1 bt183.1).bind fun t201 => (if t201 = true then (if (bt196.2 != bt183.2) = true then (none) else ((laws_toFilter.f k l0_0).bind fun t202 => ((laws_eqFilter.f k t188 t202).bind fun t205 => (if t205 = true then ((laws_toFilter.f k l1_0).bind fun t206 => ((laws_eqFilter.f k t192 t206).bind fun t209 => (if t209 = true then ((laws_markFilter.f k t188 1).bind fun bt210 => ((laws_markFilter.f k t192 bt210.1).bind fun bt212 => (if bt212.1 < 0 then (none) else ((laws_eqFilter.f k bt196.1 bt183.1).bind fun t214 => (if t214 = true then ((laws_markFilter.f k bt196.1 1).bind fun bt215 => ((laws_heldFilter.f k bt215.2 1).bind fun t217 => (if t217 < 0 then (none) else (if t217 = bt215.1 then ((laws_toFilter.f k l0_0).bind fun t218 => ((laws_toFilter.f k l1_0).bind fun t221 => ((impl_MeetFilters.f k t218 t221).bind fun bt224 => ((laws_eqFilter.f k bt224.1 bt183.1).bind fun t229 => (if t229 = true then (if (bt224.2 != bt183.2) = true then (none) else ((laws_heldFilter.f k bt215.2 1).bind fun t230 => (if t230 < 0 then (none) else (if t230 = bt215.1 then (some true) else (none))))) else (none)))))) else (none))))) else (none)))))) else (none)))) else (none))))) else (none))))))))))))
theorem laws_FnExactMeetFilters.mono : ∀ a0 a1 k, LeO (laws_FnExactMeetFilters.f k a0 a1) (laws_FnExactMeetFilters.f (k + 1) a0 a1) := by
 intro a0 a1 k
 unfold laws_FnExactMeetFilters.f
 repeat' first
   | (with_reducible exact impl_MeetFilters.mono _ _ _)
   | (with_reducible exact laws_eqFilter.mono _ _ _)
   | (with_reducible exact laws_heldFilter.mono _ _ _)
   | (with_reducible exact laws_markFilter.mono _ _ _)
   | (with_reducible exact laws_toFilter.mono _ _)
   | (with_reducible exact spec_MeetFilters.mono _ _ _)
   | (with_reducible exact LeO.refl _)
   | (with_reducible exact LeO.none _)
   | (with_reducible refine LeO.ite ?_ ?_)
   | (with_reducible refine LeO.bind ?_ (fun _ => ?_))
   | exact impl_MeetFilters.mono _ _ _
   | exact laws_eqFilter.mono _ _ _
   | exact laws_heldFilter.mono _ _ _
   | exact laws_markFilter.mono _ _ _
   | exact laws_toFilter.mono _ _
   | exact spec_MeetFilters.mono _ _ _
   | exact LeO.none _
   | refine LeO.ite ?_ ?_
   | refine LeO.bind ?_ (fun _ => ?_)
def laws_FnExactMeetFilters.T8 : Bool × List (List Nat × List Nat) := (true, [([], []), ([0], [0]), ([], []), ([2, 1], [2]), ([1, 3, 3], [1, 3]), ([4], [4]), ([5], [5]), ([5], [5]), ([], []), ([8, 6, 4, 0, 1, 2, 3, 4, 5, 6, 8], [6, 8]), ([7, 9, 0, 1, 2, 3, 4, 5, 6, 7, 8, 9], [7])])
def laws_FnExactMeetFilters.B8 : List Nat := [0, 1, 0, 7, 15, 31, 63, 63, 0, 383, 1023]
theorem laws_FnExactMeetFilters.tab8 : rtab .any (opsOf Try.f8 8) = laws_FnExactMeetFilters.T8 := by kernel_rfl
theorem laws_FnExactMeetFilters.bits8 : waitsOk laws_FnExactMeetFilters.T8.2 laws_FnExactMeetFilters.B8 = true := by kernel_rfl
def laws_FnExactMeetFilters.T31 : Bool × List (List Nat × List Nat) := (true, [([], []), ([0], [0]), ([], []), ([2, 1], [2]), ([1, 3, 3], [1, 3]), ([4], [4]), ([5], [5]), ([5], [5]), ([], []), ([8, 6, 4, 0, 1, 2, 3, 4, 5, 6, 8], [6, 8]), ([7, 9, 0, 1, 2, 3, 4, 5, 6, 7, 8, 9], [7])])
def laws_FnExactMeetFilters.B31 : List Nat := [0, 1, 0, 7, 15, 31, 63, 63, 0, 383, 1023]
theorem laws_FnExactMeetFilters.tab31 : rtab .any (opsOf Try.f8 31) = laws_FnExactMeetFilters.T31 := by kernel_rfl
theorem laws_FnExactMeetFilters.bits31 : waitsOk laws_FnExactMeetFilters.T31.2 laws_FnExactMeetFilters.B31 = true := by kernel_rfl
set_option maxHeartbeats 8000000 in
set_option maxRecDepth 100000 in
theorem laws_FnExactMeetFilters.calls (k : Nat) (A0_0 : Option Addr) (c0_0 : Nat) (l0_0 : List Bool) (A1_0 : Option Addr) (c1_0 : Nat) (l1_0 : List Bool) (r : Bool) (w : World) (hr0_0 : Kd.C Kd.bool w A0_0 l0_0.length l0_0) (hc0_0 : l0_0.length ≤ c0_0) (hr1_0 : Kd.C Kd.bool w A1_0 l1_0.length l1_0) (hc1_0 : l1_0.length ≤ c1_0) (h : laws_FnExactMeetFilters.f k l0_0 l1_0 = some r) :
  Calls Try.prog 8 #[.agg #[.slice A0_0 l0_0.length c0_0], .agg #[.slice A1_0 l1_0.length c1_0]] w fun e w' => e = .returned (.bool r) ∧ Below w.heap.size w w' := by
 have hu29 := Try.underlying29
 have hu32 := Try.underlying32
 have HR0_0 := Aside0.mk hr0_0
 have HC0_0 := Aside0.mk hc0_0
 clear hr0_0 hc0_0
 have HR1_0 := Aside0.mk hr1_0
 have HC1_0 := Aside0.mk hc1_0
 clear hr1_0 hc1_0
 have HB := Aside0.mk (Below.refl w.heap.size w)
 have H : ((laws_szFilter.f l0_0 1048576).bind fun t175 => (if t175 < 0 then (some true) else ((laws_szFilter.f l1_0 t175).bind fun t176 => (if t176 < 0 then (some true) else ((laws_toFilter.f k l0_0).bind fun t177 => ((laws_toFilter.f k l1_0).bind fun t180 => ((spec_MeetFilters.f k t177 t180).bind fun bt183 => ((laws_toFilter.f k l0_0).bind fun t188 => ((laws_toFilter.f k l1_0).bind fun t192 => ((impl_MeetFilters.f k t188 t192).bind fun bt196 => ((laws_eqFilter.f k bt196.1 bt183.1).bind fun t201 => (if t201 = true then (if (bt196.2 != bt183.2) = true then (none) else ((laws_toFilter.f k l0_0).bind fun t202 => ((laws_eqFilter.f k t188 t202).bind fun t205 => (if t205 = true then ((laws_toFilter.f k l1_0).bind fun t206 => ((laws_eqFilter.f k t192 t206).bind fun t209 => (if t209 = true then ((laws_markFilter.f k t188 1).bind fun bt210 => ((laws_markFilter.f k t192 bt210.1).bind fun bt212 => (if bt212.1 < 0 then (none) else ((laws_eqFilter.f k bt196.1 bt183.1).bind fun t214 => (if t214 = true then ((laws_markFilter.f k bt196.1 1).bind fun bt215 => ((laws_heldFilter.f k bt215.2 1).bind fun t217 => (if t217 < 0 then (none) else (if t217 = bt215.1 then ((laws_toFilter.f k l0_0).bind fun t218 => ((laws_toFilter.f k l1_0).bind fun t221 => ((impl_MeetFilters.f k t218 t221).bind fun bt224 => ((laws_eqFilter.f k bt224.1 bt183.1).bind fun t229 => (if t229 = true then (if (bt224.2 != bt183.2) = true then (none) else ((laws_heldFilter.f k bt215.2 1).bind fun t230 => (if t230 < 0 then (none) else (if t230 = bt215.1 then (some true) else (none))))) else (none)))))) else (none))))) else (none)))))) else (none)))) else (none))))) else (none))))))))))))) = some r := h
 clear h
 replace H := Option.bind_eq_some_iff.mp H
 obtain ⟨t175, A30, H⟩ := H
 replace H : (if t175 < 0 then (some true) else ((laws_szFilter.f l1_0 t175).bind fun t176 => (if t176 < 0 then (some true) else ((laws_toFilter.f k l0_0).bind fun t177 => ((laws_toFilter.f k l1_0).bind fun t180 => ((spec_MeetFilters.f k t177 t180).bind fun bt183 => ((laws_toFilter.f k l0_0).bind fun t188 => ((laws_toFilter.f k l1_0).bind fun t192 => ((impl_MeetFilters.f k t188 t192).bind fun bt196 => ((laws_eqFilter.f k bt196.1 bt183.1).bind fun t201 => (if t201 = true then (if (bt196.2 != bt183.2) = true then (none) else ((laws_toFilter.f k l0_0).bind fun t202 => ((laws_eqFilter.f k t188 t202).bind fun t205 => (if t205 = true then ((laws_toFilter.f k l1_0).bind fun t206 => ((laws_eqFilter.f k t192 t206).bind fun t209 => (if t209 = true then ((laws_markFilter.f k t188 1).bind fun bt210 => ((laws_markFilter.f k t192 bt210.1).bind fun bt212 => (if bt212.1 < 0 then (none) else ((laws_eqFilter.f k bt196.1 bt183.1).bind fun t214 => (if t214 = true then ((laws_markFilter.f k bt196.1 1).bind fun bt215 => ((laws_heldFilter.f k bt215.2 1).bind fun t217 => (if t217 < 0 then (none) else (if t217 = bt215.1 then ((laws_toFilter.f k l0_0).bind fun t218 => ((laws_toFilter.f k l1_0).bind fun t221 => ((impl_MeetFilters.f k t218 t221).bind fun bt224 => ((laws_eqFilter.f k bt224.1 bt183.1).bind fun t229 => (if t229 = true then (if (bt224.2 != bt183.2) = true then (none) else ((laws_heldFilter.f k bt215.2 1).bind fun t230 => (if t230 < 0 then (none) else (if t230 = bt215.1 then (some true) else (none))))) else (none)))))) else (none))))) else (none)))))) else (none)))) else (none))))) else (none)))))))))))) = some r := H
 have A3 := Aside0.mk A30
 clear A30
 by_cases c4 : t175 < 0
 ·rw [if_pos c4] at H
  have c4b0 : decide (t175 < 0) = true := decide_eq_true c4
  clear c4
  obtain rfl := Option.some.inj H
  go_enter Try.func8, Try.ntmps8
  go_wp2_with (first | ((with_reducible refine gate_dst (N := 2) rfl ?_); refine box_event ?hg (N := 2) ?hd (cs := #[.slice A0_0 l0_0.length c0_0]) (t := 29) ?hr ?_; (case hd => rfl); (case hg => rfl); (case hr => first | (go_simp; done) | (go_simp; rfl)); intro gb173 hg w5 hbox hb; have BK173 := Aside0.mk (hbox); have GW173 := Aside0.mk ((by rw [hg]; exact (below_size (bB HB)) : w.heap.size ≤ gb173)); have GE173 := Aside0.mk ((by rw [hg]; exact (below_size (bB HB)) : w.heap.size ≤ gb173)); replace HB := Aside0.mk (below_step (bB HB) hb); clear hb hbox hg) | ((with_reducible refine gate_dst (N := 3) rfl ?_); refine box_event ?hg (N := 3) ?hd (cs := #[.slice A1_0 l1_0.length c1_0]) (t := 29) ?hr ?_; (case hd => rfl); (case hg => rfl); (case hr => first | (go_simp; done) | (go_simp; rfl)); intro gb174 hg w6 hbox hb; have BK174 := Aside0.mk (hbox); have GW174 := Aside0.mk ((by rw [hg]; exact (below_size (bB HB)) : w.heap.size ≤ gb174)); have GE174 := Aside0.mk ((by rw [hg]; exact (below_size (bB HB)) : w.heap.size ≤ gb174)); replace HB := Aside0.mk (below_step (bB HB) hb); have NB173_174 := Aside0.mk ((by rw [hg]; exact Nat.ne_of_lt (blk_lt (g := gb173) (o := .cells #[.slice A0_0 l0_0.length c0_0] 29 (0, 0)) (kB BK173)) : gb173 ≠ gb174)); have NB174_173 := Aside0.mk ((by rw [hg]; exact Nat.ne_of_gt (blk_lt (g := gb173) (o := .cells #[.slice A0_0 l0_0.length c0_0] 29 (0, 0)) (kB BK173)) : gb174 ≠ gb173)); replace BK173 := Aside0.mk (blk_below (g := gb173) (o := .cells #[.slice A0_0 l0_0.length c0_0] 29 (0, 0)) (kB BK173) hb); clear hb hbox hg; have hnb7 := NB173_174.out; have hnc7 := NB174_173.out; have hcz8_0 : w6.cell? ⟨gb173, 0, none⟩ = some (.slice A0_0 l0_0.length c0_0) := (blk_cell BK173.out 0).trans rfl; have hfz8_0 := blk_frozen BK173.out 0) | ((with_reducible refine gate_callee (f := 15) rfl ?_); refine goesL_ (some 19) rfl rfl Try.func15 (by kernel_rfl) rfl #[.agg #[.slice A0_0 l0_0.length c0_0], .int .i64 1048576] rfl (by (try simp only [List.map_toArray, List.map_cons, List.map_nil]); first | done | rfl | (simp only [List.length_drop, List.length_take]; rfl)) ?_; (with_reducible refine (laws_szFilter.calls _ _ l0_0 1048576 t175 _ ?side1 ?side2 A3.out).mono ?_); (case side1 => repeat (first | exact (Kd.C_below HR0_0.out HB.out) | (with_reducible refine Kd.C_alloc ?_ _) | (with_reducible refine Kd.C_drewN ?_ _) | (with_reducible refine Kd.C_drew ?_))); (case side2 => exact HC0_0.out); rintro e w9 ⟨rfl, hb⟩; refine ⟨_, rfl, ?_⟩; replace BK173 := Aside0.mk (blk_below (g := gb173) (o := .cells #[.slice A0_0 l0_0.length c0_0] 29 (0, 0)) (kB BK173) hb); replace BK174 := Aside0.mk (blk_below (g := gb174) (o := .cells #[.slice A1_0 l1_0.length c1_0] 29 (0, 0)) (kB BK174) hb); replace HB := Aside0.mk (below_step (bB HB) hb); (try clear hb); (try clear hb2); (try clear hk); (try clear hi)))
  go_ret
  exact ⟨by first | rfl | (simp [errW_none, errW_some] <;> rfl) | (simp [*, errW_none, errW_some] <;> rfl), bB HB⟩
 ·rw [if_neg c4] at H
  have c4b0 : decide (t175 < 0) = false := decide_eq_false c4
  clear c4
  replace H := Option.bind_eq_some_iff.mp H
  obtain ⟨t176, A100, H⟩ := H
  replace H : (if t176 < 0 then (some true) else ((laws_toFilter.f k l0_0).bind fun t177 => ((laws_toFilter.f k l1_0).bind fun t180 => ((spec_MeetFilters.f k t177 t180).bind fun bt183 => ((laws_toFilter.f k l0_0).bind fun t188 => ((laws_toFilter.f k l1_0).bind fun t192 => ((impl_MeetFilters.f k t188 t192).bind fun bt196 => ((laws_eqFilter.f k bt196.1 bt183.1).bind fun t201 => (if t201 = true then (if (bt196.2 != bt183.2) = true then (none) else ((laws_toFilter.f k l0_0).bind fun t202 => ((laws_eqFilter.f k t188 t202).bind fun t205 => (if t205 = true then ((laws_toFilter.f k l1_0).bind fun t206 => ((laws_eqFilter.f k t192 t206).bind fun t209 => (if t209 = true then ((laws_markFilter.f k t188 1).bind fun bt210 => ((laws_markFilter.f k t192 bt210.1).bind fun bt212 => (if bt212.1 < 0 then (none) else ((laws_eqFilter.f k bt196.1 bt183.1).bind fun t214 => (if t214 = true then ((laws_markFilter.f k bt196.1 1).bind fun bt215 => ((laws_heldFilter.f k bt215.2 1).bind fun t217 => (if t217 < 0 then (none) else (if t217 = bt215.1 then ((laws_toFilter.f k l0_0).bind fun t218 => ((laws_toFilter.f k l1_0).bind fun t221 => ((impl_MeetFilters.f k t218 t221).bind fun bt224 => ((laws_eqFilter.f k bt224.1 bt183.1).bind fun t229 => (if t229 = true then (if (bt224.2 != bt183.2) = true then (none) else ((laws_heldFilter.f k bt215.2 1).bind fun t230 => (if t230 < 0 then (none) else (if t230 = bt215.1 then (some true) else (none))))) else (none)))))) else (none))))) else (none)))))) else (none)))) else (none))))) else (none)))))))))) = some r := H
  have A10 := Aside0.mk A100
  clear A100
  by_cases c11 : t176 < 0
  ·rw [if_pos c11] at H
   have c11b0 : decide (t176 < 0) = true := decide_eq_true c11
   clear c11
   obtain rfl := Option.some.inj H
   go_enter Try.func8, Try.ntmps8
   go_wp2_with (first | ((with_reducible refine gate_dst (N := 2) rfl ?_); refine box_event ?hg (N := 2) ?hd (cs := #[.slice A0_0 l0_0.length c0_0]) (t := 29) ?hr ?_; (case hd => rfl); (case hg => rfl); (case hr => first | (go_simp; done) | (go_simp; rfl)); intro gb173 hg w12 hbox hb; have BK173 := Aside0.mk (hbox); have GW173 := Aside0.mk ((by rw [hg]; exact (below_size (bB HB)) : w.heap.size ≤ gb173)); have GE173 := Aside0.mk ((by rw [hg]; exact (below_size (bB HB)) : w.heap.size ≤ gb173)); replace HB := Aside0.mk (below_step (bB HB) hb); clear hb hbox hg) | ((with_reducible refine gate_dst (N := 3) rfl ?_); refine box_event ?hg (N := 3) ?hd (cs := #[.slice A1_0 l1_0.length c1_0]) (t := 29) ?hr ?_; (case hd => rfl); (case hg => rfl); (case hr => first | (go_simp; done) | (go_simp; rfl)); intro gb174 hg w13 hbox hb; have BK174 := Aside0.mk (hbox); have GW174 := Aside0.mk ((by rw [hg]; exact (below_size (bB HB)) : w.heap.size ≤ gb174)); have GE174 := Aside0.mk ((by rw [hg]; exact (below_size (bB HB)) : w.heap.size ≤ gb174)); replace HB := Aside0.mk (below_step (bB HB) hb); have NB173_174 := Aside0.mk ((by rw [hg]; exact Nat.ne_of_lt (blk_lt (g := gb173) (o := .cells #[.slice A0_0 l0_0.length c0_0] 29 (0, 0)) (kB BK173)) : gb173 ≠ gb174)); have NB174_173 := Aside0.mk ((by rw [hg]; exact Nat.ne_of_gt (blk_lt (g := gb173) (o := .cells #[.slice A0_0 l0_0.length c0_0] 29 (0, 0)) (kB BK173)) : gb174 ≠ gb173)); replace BK173 := Aside0.mk (blk_below (g := gb173) (o := .cells #[.slice A0_0 l0_0.length c0_0] 29 (0, 0)) (kB BK173) hb); clear hb hbox hg; have hnb14 := NB173_174.out; have hnc14 := NB174_173.out; have hcz15_0 : w13.cell? ⟨gb173, 0, none⟩ = some (.slice A0_0 l0_0.length c0_0) := (blk_cell BK173.out 0).trans rfl; have hfz15_0 := blk_frozen BK173.out 0) | ((with_reducible refine gate_callee (f := 15) rfl ?_); refine goesL_ (some 19) rfl rfl Try.func15 (by kernel_rfl) rfl #[.agg #[.slice A0_0 l0_0.length c0_0], .int .i64 1048576] rfl (by (try simp only [List.map_toArray, List.map_cons, List.map_nil]); first | done | rfl | (simp only [List.length_drop, List.length_take]; rfl)) ?_; (with_reducible refine (laws_szFilter.calls _ _ l0_0 1048576 t175 _ ?side1 ?side2 A3.out).mono ?_); (case side1 => repeat (first | exact (Kd.C_below HR0_0.out HB.out) | (with_reducible refine Kd.C_alloc ?_ _) | (with_reducible refine Kd.C_drewN ?_ _) | (with_reducible refine Kd.C_drew ?_))); (case side2 => exact HC0_0.out); rintro e w16 ⟨rfl, hb⟩; refine ⟨_, rfl, ?_⟩; replace BK173 := Aside0.mk (blk_below (g := gb173) (o := .cells #[.slice A0_0 l0_0.length c0_0] 29 (0, 0)) (kB BK173) hb); replace BK174 := Aside0.mk (blk_below (g := gb174) (o := .cells #[.slice A1_0 l1_0.length c1_0] 29 (0, 0)) (kB BK174) hb); replace HB := Aside0.mk (below_step (bB HB) hb); (try clear hb); (try clear hb2); (try clear hk); (try clear hi); have hcz17_0 : w16.cell? ⟨gb174, 0, none⟩ = some (.slice A1_0 l1_0.length c1_0) := (blk_cell BK174.out 0).trans rfl; have hfz17_0 := blk_frozen BK174.out 0) | ((with_reducible refine gate_callee (f := 15) rfl ?_); refine goesL_ (some 24) rfl rfl Try.func15 (by kernel_rfl) rfl #[.agg #[.slice A1_0 l1_0.length c1_0], .int .i64 t175] rfl (by (try simp only [List.map_toArray, List.map_cons, List.map_nil]); first | done | rfl | (simp only [List.length_drop, List.length_take]; rfl)) ?_; (with_reducible refine (laws_szFilter.calls _ _ l1_0 t175 t176 _ ?side1 ?side2 A10.out).mono ?_); (case side1 => repeat (first | exact (Kd.C_below HR1_0.out HB.out) | (with_reducible refine Kd.C_alloc ?_ _) | (with_reducible refine Kd.C_drewN ?_ _) | (with_reducible refine Kd.C_drew ?_))); (case side2 => exact HC1_0.out); rintro e w18 ⟨rfl, hb⟩; refine ⟨_, rfl, ?_⟩; replace BK173 := Aside0.mk (blk_below (g := gb173) (o := .cells #[.slice A0_0 l0_0.length c0_0] 29 (0, 0)) (kB BK173) hb); replace BK174 := Aside0.mk (blk_below (g := gb174) (o := .cells #[.slice A1_0 l1_0.length c1_0] 29 (0, 0)) (kB BK174) hb); replace HB := Aside0.mk (below_step (bB HB) hb); (try clear hb); (try clear hb2); (try clear hk); (try clear hi)))
   go_ret
   exact ⟨by first | rfl | (simp [errW_none, errW_some] <;> rfl) | (simp [*, errW_none, errW_some] <;> rfl), bB HB⟩
  ·rw [if_neg c11] at H
   have c11b0 : decide (t176 < 0) = false := decide_eq_false c11
   clear c11
   replace H := Option.bind_eq_some_iff.mp H
   obtain ⟨t177, A190, H⟩ := H
   replace H : ((laws_toFilter.f k l1_0).bind fun t180 => ((spec_MeetFilters.f k t177 t180).bind fun bt183 => ((laws_toFilter.f k l0_0).bind fun t188 => ((laws_toFilter.f k l1_0).bind fun t192 => ((impl_MeetFilters.f k t188 t192).bind fun bt196 => ((laws_eqFilter.f k bt196.1 bt183.1).bind fun t201 => (if t201 = true then (if (bt196.2 != bt183.2) = true then (none) else ((laws_toFilter.f k l0_0).bind fun t202 => ((laws_eqFilter.f k t188 t202).bind fun t205 => (if t205 = true then ((laws_toFilter.f k l1_0).bind fun t206 => ((laws_eqFilter.f k t192 t206).bind fun t209 => (if t209 = true then ((laws_markFilter.f k t188 1).bind fun bt210 => ((laws_markFilter.f k t192 bt210.1).bind fun bt212 => (if bt212.1 < 0 then (none) else ((laws_eqFilter.f k bt196.1 bt183.1).bind fun t214 => (if t214 = true then ((laws_markFilter.f k bt196.1 1).bind fun bt215 => ((laws_heldFilter.f k bt215.2 1).bind fun t217 => (if t217 < 0 then (none) else (if t217 = bt215.1 then ((laws_toFilter.f k l0_0).bind fun t218 => ((laws_toFilter.f k l1_0).bind fun t221 => ((impl_MeetFilters.f k t218 t221).bind fun bt224 => ((laws_eqFilter.f k bt224.1 bt183.1).bind fun t229 => (if t229 = true then (if (bt224.2 != bt183.2) = true then (none) else ((laws_heldFilter.f k bt215.2 1).bind fun t230 => (if t230 < 0 then (none) else (if t230 = bt215.1 then (some true) else (none))))) else (none)))))) else (none))))) else (none)))))) else (none)))) else (none))))) else (none)))))))) = some r := H
   have A19 := Aside0.mk A190
   clear A190
   replace H := Option.bind_eq_some_iff.mp H
   obtain ⟨t180, A200, H⟩ := H
   replace H : ((spec_MeetFilters.f k t177 t180).bind fun bt183 => ((laws_toFilter.f k l0_0).bind fun t188 => ((laws_toFilter.f k l1_0).bind fun t192 => ((impl_MeetFilters.f k t188 t192).bind fun bt196 => ((laws_eqFilter.f k bt196.1 bt183.1).bind fun t201 => (if t201 = true then (if (bt196.2 != bt183.2) = true then (none) else ((laws_toFilter.f k l0_0).bind fun t202 => ((laws_eqFilter.f k t188 t202).bind fun t205 => (if t205 = true then ((laws_toFilter.f k l1_0).bind fun t206 => ((laws_eqFilter.f k t192 t206).bind fun t209 => (if t209 = true then ((laws_markFilter.f k t188 1).bind fun bt210 => ((laws_markFilter.f k t192 bt210.1).bind fun bt212 => (if bt212.1 < 0 then (none) else ((laws_eqFilter.f k bt196.1 bt183.1).bind fun t214 => (if t214 = true then ((laws_markFilter.f k bt196.1 1).bind fun bt215 => ((laws_heldFilter.f k bt215.2 1).bind fun t217 => (if t217 < 0 then (none) else (if t217 = bt215.1 then ((laws_toFilter.f k l0_0).bind fun t218 => ((laws_toFilter.f k l1_0).bind fun t221 => ((impl_MeetFilters.f k t218 t221).bind fun bt224 => ((laws_eqFilter.f k bt224.1 bt183.1).bind fun t229 => (if t229 = true then (if (bt224.2 != bt183.2) = true then (none) else ((laws_heldFilter.f k bt215.2 1).bind fun t230 => (if t230 < 0 then (none) else (if t230 = bt215.1 then (some true) else (none))))) else (none)))))) else (none))))) else (none)))))) else (none)))) else (none))))) else (none))))))) = some r := H
   have A20 := Aside0.mk A200
   clear A200
   replace H := Option.bind_eq_some_iff.mp H
   obtain ⟨⟨t183, t186⟩, A210, H⟩ := H
   replace H : ((laws_toFilter.f k l0_0).bind fun t188 => ((laws_toFilter.f k l1_0).bind fun t192 => ((impl_MeetFilters.f k t188 t192).bind fun bt196 => ((laws_eqFilter.f k bt196.1 t183).bind fun t201 => (if t201 = true then (if (bt196.2 != t186) = true then (none) else ((laws_toFilter.f k l0_0).bind fun t202 => ((laws_eqFilter.f k t188 t202).bind fun t205 => (if t205 = true then ((laws_toFilter.f k l1_0).bind fun t206 => ((laws_eqFilter.f k t192 t206).bind fun t209 => (if t209 = true then ((laws_markFilter.f k t188 1).bind fun bt210 => ((laws_markFilter.f k t192 bt210.1).bind fun bt212 => (if bt212.1 < 0 then (none) else ((laws_eqFilter.f k bt196.1 t183).bind fun t214 => (if t214 = true then ((laws_markFilter.f k bt196.1 1).bind fun bt215 => ((laws_heldFilter.f k bt215.2 1).bind fun t217 => (if t217 < 0 then (none) else (if t217 = bt215.1 then ((laws_toFilter.f k l0_0).bind fun t218 => ((laws_toFilter.f k l1_0).bind fun t221 => ((impl_MeetFilters.f k t218 t221).bind fun bt224 => ((laws_eqFilter.f k bt224.1 t183).bind fun t229 => (if t229 = true then (if (bt224.2 != t186) = true then (none) else ((laws_heldFilter.f k bt215.2 1).bind fun t230 => (if t230 < 0 then (none) else (if t230 = bt215.1 then (some true) else (none))))) else (none)))))) else (none))))) else (none)))))) else (none)))) else (none))))) else (none)))))) = some r := H
   have A21 := Aside0.mk A210
   clear A210
   replace H := Option.bind_eq_some_iff.mp H
   obtain ⟨t188, A220, H⟩ := H
   replace H : ((laws_toFilter.f k l1_0).bind fun t192 => ((impl_MeetFilters.f k t188 t192).bind fun bt196 => ((laws_eqFilter.f k bt196.1 t183).bind fun t201 => (if t201 = true then (if (bt196.2 != t186) = true then (none) else ((laws_toFilter.f k l0_0).bind fun t202 => ((laws_eqFilter.f k t188 t202).bind fun t205 => (if t205 = true then ((laws_toFilter.f k l1_0).bind fun t206 => ((laws_eqFilter.f k t192 t206).bind fun t209 => (if t209 = true then ((laws_markFilter.f k t188 1).bind fun bt210 => ((laws_markFilter.f k t192 bt210.1).bind fun bt212 => (if bt212.1 < 0 then (none) else ((laws_eqFilter.f k bt196.1 t183).bind fun t214 => (if t214 = true then ((laws_markFilter.f k bt196.1 1).bind fun bt215 => ((laws_heldFilter.f k bt215.2 1).bind fun t217 => (if t217 < 0 then (none) else (if t217 = bt215.1 then ((laws_toFilter.f k l0_0).bind fun t218 => ((laws_toFilter.f k l1_0).bind fun t221 => ((impl_MeetFilters.f k t218 t221).bind fun bt224 => ((laws_eqFilter.f k bt224.1 t183).bind fun t229 => (if t229 = true then (if (bt224.2 != t186) = true then (none) else ((laws_heldFilter.f k bt215.2 1).bind fun t230 => (if t230 < 0 then (none) else (if t230 = bt215.1 then (some true) else (none))))) else (none)))))) else (none))))) else (none)))))) else (none)))) else (none))))) else (none))))) = some r := H
   have A22 := Aside0.mk A220
   clear A220
   replace H := Option.bind_eq_some_iff.mp H
   obtain ⟨t192, A230, H⟩ := H
   replace H : ((impl_MeetFilters.f k t188 t192).bind fun bt196 => ((laws_eqFilter.f k bt196.1 t183).bind fun t201 => (if t201 = true then (if (bt196.2 != t186) = true then (none) else ((laws_toFilter.f k l0_0).bind fun t202 => ((laws_eqFilter.f k t188 t202).bind fun t205 => (if t205 = true then ((laws_toFilter.f k l1_0).bind fun t206 => ((laws_eqFilter.f k t192 t206).bind fun t209 => (if t209 = true then ((laws_markFilter.f k t188 1).bind fun bt210 => ((laws_markFilter.f k t192 bt210.1).bind fun bt212 => (if bt212.1 < 0 then (none) else ((laws_eqFilter.f k bt196.1 t183).bind fun t214 => (if t214 = true then ((laws_markFilter.f k bt196.1 1).bind fun bt215 => ((laws_heldFilter.f k bt215.2 1).bind fun t217 => (if t217 < 0 then (none) else (if t217 = bt215.1 then ((laws_toFilter.f k l0_0).bind fun t218 => ((laws_toFilter.f k l1_0).bind fun t221 => ((impl_MeetFilters.f k t218 t221).bind fun bt224 => ((laws_eqFilter.f k bt224.1 t183).bind fun t229 => (if t229 = true then (if (bt224.2 != t186) = true then (none) else ((laws_heldFilter.f k bt215.2 1).bind fun t230 => (if t230 < 0 then (none) else (if t230 = bt215.1 then (some true) else (none))))) else (none)))))) else (none))))) else (none)))))) else (none)))) else (none))))) else (none)))) = some r := H
   have A23 := Aside0.mk A230
   clear A230
   replace H := Option.bind_eq_some_iff.mp H
   obtain ⟨⟨t196, t199⟩, A240, H⟩ := H
   replace H : ((laws_eqFilter.f k t196 t183).bind fun t201 => (if t201 = true then (if (t199 != t186) = true then (none) else ((laws_toFilter.f k l0_0).bind fun t202 => ((laws_eqFilter.f k t188 t202).bind fun t205 => (if t205 = true then ((laws_toFilter.f k l1_0).bind fun t206 => ((laws_eqFilter.f k t192 t206).bind fun t209 => (if t209 = true then ((laws_markFilter.f k t188 1).bind fun bt210 => ((laws_markFilter.f k t192 bt210.1).bind fun bt212 => (if bt212.1 < 0 then (none) else ((laws_eqFilter.f k t196 t183).bind fun t214 => (if t214 = true then ((laws_markFilter.f k t196 1).bind fun bt215 => ((laws_heldFilter.f k bt215.2 1).bind fun t217 => (if t217 < 0 then (none) else (if t217 = bt215.1 then ((laws_toFilter.f k l0_0).bind fun t218 => ((laws_toFilter.f k l1_0).bind fun t221 => ((impl_MeetFilters.f k t218 t221).bind fun bt224 => ((laws_eqFilter.f k bt224.1 t183).bind fun t229 => (if t229 = true then (if (bt224.2 != t186) = true then (none) else ((laws_heldFilter.f k bt215.2 1).bind fun t230 => (if t230 < 0 then (none) else (if t230 = bt215.1 then (some true) else (none))))) else (none)))))) else (none))))) else (none)))))) else (none)))) else (none))))) else (none))) = some r := H
   have A24 := Aside0.mk A240
   clear A240
   replace H := Option.bind_eq_some_iff.mp H
   obtain ⟨t201, A250, H⟩ := H
   replace H : (if t201 = true then (if (t199 != t186) = true then (none) else ((laws_toFilter.f k l0_0).bind fun t202 => ((laws_eqFilter.f k t188 t202).bind fun t205 => (if t205 = true then ((laws_toFilter.f k l1_0).bind fun t206 => ((laws_eqFilter.f k t192 t206).bind fun t209 => (if t209 = true then ((laws_markFilter.f k t188 1).bind fun bt210 => ((laws_markFilter.f k t192 bt210.1).bind fun bt212 => (if bt212.1 < 0 then (none) else ((laws_eqFilter.f k t196 t183).bind fun t214 => (if t214 = true then ((laws_markFilter.f k t196 1).bind fun bt215 => ((laws_heldFilter.f k bt215.2 1).bind fun t217 => (if t217 < 0 then (none) else (if t217 = bt215.1 then ((laws_toFilter.f k l0_0).bind fun t218 => ((laws_toFilter.f k l1_0).bind fun t221 => ((impl_MeetFilters.f k t218 t221).bind fun bt224 => ((laws_eqFilter.f k bt224.1 t183).bind fun t229 => (if t229 = true then (if (bt224.2 != t186) = true then (none) else ((laws_heldFilter.f k bt215.2 1).bind fun t230 => (if t230 < 0 then (none) else (if t230 = bt215.1 then (some true) else (none))))) else (none)))))) else (none))))) else (none)))))) else (none)))) else (none))))) else (none)) = some r := H
   have A25 := Aside0.mk A250
   clear A250
   by_cases c26 : t201 = true
   ·subst c26
    have H1 : (if (t199 != t186) = true then (none) else ((laws_toFilter.f k l0_0).bind fun t202 => ((laws_eqFilter.f k t188 t202).bind fun t205 => (if t205 = true then ((laws_toFilter.f k l1_0).bind fun t206 => ((laws_eqFilter.f k t192 t206).bind fun t209 => (if t209 = true then ((laws_markFilter.f k t188 1).bind fun bt210 => ((laws_markFilter.f k t192 bt210.1).bind fun bt212 => (if bt212.1 < 0 then (none) else ((laws_eqFilter.f k t196 t183).bind fun t214 => (if t214 = true then ((laws_markFilter.f k t196 1).bind fun bt215 => ((laws_heldFilter.f k bt215.2 1).bind fun t217 => (if t217 < 0 then (none) else (if t217 = bt215.1 then ((laws_toFilter.f k l0_0).bind fun t218 => ((laws_toFilter.f k l1_0).bind fun t221 => ((impl_MeetFilters.f k t218 t221).bind fun bt224 => ((laws_eqFilter.f k bt224.1 t183).bind fun t229 => (if t229 = true then (if (bt224.2 != t186) = true then (none) else ((laws_heldFilter.f k bt215.2 1).bind fun t230 => (if t230 < 0 then (none) else (if t230 = bt215.1 then (some true) else (none))))) else (none)))))) else (none))))) else (none)))))) else (none)))) else (none))))) = some r := by rw [if_pos rfl] at H; exact H
    clear H
    have H := H1
    clear H1
    by_cases c27 : (t199 != t186) = true
    ·rw [if_pos c27] at H
     exact absurd H (by simp)
    ·rw [if_neg c27] at H
     have c27b0 : (t199 != t186) = false := by simpa using c27
     (try (have c27b1 : decide (t199 = t186) = true := by simpa using c27))
     (try (have c27b2 : (t199 == t186) = true := by simpa using c27))
     clear c27
     replace H := Option.bind_eq_some_iff.mp H
     obtain ⟨t202, A280, H⟩ := H
     replace H : ((laws_eqFilter.f k t188 t202).bind fun t205 => (if t205 = true then ((laws_toFilter.f k l1_0).bind fun t206 => ((laws_eqFilter.f k t192 t206).bind fun t209 => (if t209 = true then ((laws_markFilter.f k t188 1).bind fun bt210 => ((laws_markFilter.f k t192 bt210.1).bind fun bt212 => (if bt212.1 < 0 then (none) else ((laws_eqFilter.f k t196 t183).bind fun t214 => (if t214 = true then ((laws_markFilter.f k t196 1).bind fun bt215 => ((laws_heldFilter.f k bt215.2 1).bind fun t217 => (if t217 < 0 then (none) else (if t217 = bt215.1 then ((laws_toFilter.f k l0_0).bind fun t218 => ((laws_toFilter.f k l1_0).bind fun t221 => ((impl_MeetFilters.f k t218 t221).bind fun bt224 => ((laws_eqFilter.f k bt224.1 t183).bind fun t229 => (if t229 = true then (if (bt224.2 != t186) = true then (none) else ((laws_heldFilter.f k bt215.2 1).bind fun t230 => (if t230 < 0 then (none) else (if t230 = bt215.1 then (some true) else (none))))) else (none)))))) else (none))))) else (none)))))) else (none)))) else (none))) = some r := H
     have A28 := Aside0.mk A280
     clear A280
     replace H := Option.bind_eq_some_iff.mp H
     obtain ⟨t205, A290, H⟩ := H
     replace H : (if t205 = true then ((laws_toFilter.f k l1_0).bind fun t206 => ((laws_eqFilter.f k t192 t206).bind fun t209 => (if t209 = true then ((laws_markFilter.f k t188 1).bind fun bt210 => ((laws_markFilter.f k t192 bt210.1).bind fun bt212 => (if bt212.1 < 0 then (none) else ((laws_eqFilter.f k t196 t183).bind fun t214 => (if t214 = true then ((laws_markFilter.f k t196 1).bind fun bt215 => ((laws_heldFilter.f k bt215.2 1).bind fun t217 => (if t217 < 0 then (none) else (if t217 = bt215.1 then ((laws_toFilter.f k l0_0).bind fun t218 => ((laws_toFilter.f k l1_0).bind fun t221 => ((impl_MeetFilters.f k t218 t221).bind fun bt224 => ((laws_eqFilter.f k bt224.1 t183).bind fun t229 => (if t229 = true then (if (bt224.2 != t186) = true then (none) else ((laws_heldFilter.f k bt215.2 1).bind fun t230 => (if t230 < 0 then (none) else (if t230 = bt215.1 then (some true) else (none))))) else (none)))))) else (none))))) else (none)))))) else (none)))) else (none)) = some r := H
     have A29 := Aside0.mk A290
     clear A290
     by_cases c30 : t205 = true
     ·subst c30
      have H1 : ((laws_toFilter.f k l1_0).bind fun t206 => ((laws_eqFilter.f k t192 t206).bind fun t209 => (if t209 = true then ((laws_markFilter.f k t188 1).bind fun bt210 => ((laws_markFilter.f k t192 bt210.1).bind fun bt212 => (if bt212.1 < 0 then (none) else ((laws_eqFilter.f k t196 t183).bind fun t214 => (if t214 = true then ((laws_markFilter.f k t196 1).bind fun bt215 => ((laws_heldFilter.f k bt215.2 1).bind fun t217 => (if t217 < 0 then (none) else (if t217 = bt215.1 then ((laws_toFilter.f k l0_0).bind fun t218 => ((laws_toFilter.f k l1_0).bind fun t221 => ((impl_MeetFilters.f k t218 t221).bind fun bt224 => ((laws_eqFilter.f k bt224.1 t183).bind fun t229 => (if t229 = true then (if (bt224.2 != t186) = true then (none) else ((laws_heldFilter.f k bt215.2 1).bind fun t230 => (if t230 < 0 then (none) else (if t230 = bt215.1 then (some true) else (none))))) else (none)))))) else (none))))) else (none)))))) else (none)))) = some r := by rw [if_pos rfl] at H; exact H
      clear H
      have H := H1
      clear H1
      replace H := Option.bind_eq_some_iff.mp H
      obtain ⟨t206, A310, H⟩ := H
      replace H : ((laws_eqFilter.f k t192 t206).bind fun t209 => (if t209 = true then ((laws_markFilter.f k t188 1).bind fun bt210 => ((laws_markFilter.f k t192 bt210.1).bind fun bt212 => (if bt212.1 < 0 then (none) else ((laws_eqFilter.f k t196 t183).bind fun t214 => (if t214 = true then ((laws_markFilter.f k t196 1).bind fun bt215 => ((laws_heldFilter.f k bt215.2 1).bind fun t217 => (if t217 < 0 then (none) else (if t217 = bt215.1 then ((laws_toFilter.f k l0_0).bind fun t218 => ((laws_toFilter.f k l1_0).bind fun t221 => ((impl_MeetFilters.f k t218 t221).bind fun bt224 => ((laws_eqFilter.f k bt224.1 t183).bind fun t229 => (if t229 = true then (if (bt224.2 != t186) = true then (none) else ((laws_heldFilter.f k bt215.2 1).bind fun t230 => (if t230 < 0 then (none) else (if t230 = bt215.1 then (some true) else (none))))) else (none)))))) else (none))))) else (none)))))) else (none))) = some r := H
      have A31 := Aside0.mk A310
      clear A310
      replace H := Option.bind_eq_some_iff.mp H
      obtain ⟨t209, A320, H⟩ := H
      replace H : (if t209 = true then ((laws_markFilter.f k t188 1).bind fun bt210 => ((laws_markFilter.f k t192 bt210.1).bind fun bt212 => (if bt212.1 < 0 then (none) else ((laws_eqFilter.f k t196 t183).bind fun t214 => (if t214 = true then ((laws_markFilter.f k t196 1).bind fun bt215 => ((laws_heldFilter.f k bt215.2 1).bind fun t217 => (if t217 < 0 then (none) else (if t217 = bt215.1 then ((laws_toFilter.f k l0_0).bind fun t218 => ((laws_toFilter.f k l1_0).bind fun t221 => ((impl_MeetFilters.f k t218 t221).bind fun bt224 => ((laws_eqFilter.f k bt224.1 t183).bind fun t229 => (if t229 = true then (if (bt224.2 != t186) = true then (none) else ((laws_heldFilter.f k bt215.2 1).bind fun t230 => (if t230 < 0 then (none) else (if t230 = bt215.1 then (some true) else (none))))) else (none)))))) else (none))))) else (none)))))) else (none)) = some r := H
      have A32 := Aside0.mk A320
      clear A320
      by_cases c33 : t209 = true
      ·subst c33
       have H1 : ((laws_markFilter.f k t188 1).bind fun bt210 => ((laws_markFilter.f k t192 bt210.1).bind fun bt212 => (if bt212.1 < 0 then (none) else ((laws_eqFilter.f k t196 t183).bind fun t214 => (if t214 = true then ((laws_markFilter.f k t196 1).bind fun bt215 => ((laws_heldFilter.f k bt215.2 1).bind fun t217 => (if t217 < 0 then (none) else (if t217 = bt215.1 then ((laws_toFilter.f k l0_0).bind fun t218 => ((laws_toFilter.f k l1_0).bind fun t221 => ((impl_MeetFilters.f k t218 t221).bind fun bt224 => ((laws_eqFilter.f k bt224.1 t183).bind fun t229 => (if t229 = true then (if (bt224.2 != t186) = true then (none) else ((laws_heldFilter.f k bt215.2 1).bind fun t230 => (if t230 < 0 then (none) else (if t230 = bt215.1 then (some true) else (none))))) else (none)))))) else (none))))) else (none)))))) = some r := by rw [if_pos rfl] at H; exact H
       clear H
       have H := H1
       clear H1
       replace H := Option.bind_eq_some_iff.mp H
       obtain ⟨⟨t210, t211⟩, A340, H⟩ := H
       replace H : ((laws_markFilter.f k t192 t210).bind fun bt212 => (if bt212.1 < 0 then (none) else ((laws_eqFilter.f k t196 t183).bind fun t214 => (if t214 = true then ((laws_markFilter.f k t196 1).bind fun bt215 => ((laws_heldFilter.f k bt215.2 1).bind fun t217 => (if t217 < 0 then (none) else (if t217 = bt215.1 then ((laws_toFilter.f k l0_0).bind fun t218 => ((laws_toFilter.f k l1_0).bind fun t221 => ((impl_MeetFilters.f k t218 t221).bind fun bt224 => ((laws_eqFilter.f k bt224.1 t183).bind fun t229 => (if t229 = true then (if (bt224.2 != t186) = true then (none) else ((laws_heldFilter.f k bt215.2 1).bind fun t230 => (if t230 < 0 then (none) else (if t230 = bt215.1 then (some true) else (none))))) else (none)))))) else (none))))) else (none))))) = some r := H
       have A34 := Aside0.mk A340
       clear A340
       replace H := Option.bind_eq_some_iff.mp H
       obtain ⟨⟨t212, t213⟩, A350, H⟩ := H
       replace H : (if t212 < 0 then (none) else ((laws_eqFilter.f k t196 t183).bind fun t214 => (if t214 = true then ((laws_markFilter.f k t196 1).bind fun bt215 => ((laws_heldFilter.f k bt215.2 1).bind fun t217 => (if t217 < 0 then (none) else (if t217 = bt215.1 then ((laws_toFilter.f k l0_0).bind fun t218 => ((laws_toFilter.f k l1_0).bind fun t221 => ((impl_MeetFilters.f k t218 t221).bind fun bt224 => ((laws_eqFilter.f k bt224.1 t183).bind fun t229 => (if t229 = true then (if (bt224.2 != t186) = true then (none) else ((laws_heldFilter.f k bt215.2 1).bind fun t230 => (if t230 < 0 then (none) else (if t230 = bt215.1 then (some true) else (none))))) else (none)))))) else (none))))) else (none)))) = some r := H
       have A35 := Aside0.mk A350
       clear A350
       by_cases c36 : t212 < 0
       ·rw [if_pos c36] at H
        exact absurd H (by simp)
       ·rw [if_neg c36] at H
        have c36b0 : decide (t212 < 0) = false := decide_eq_false c36
        clear c36
        replace H := Option.bind_eq_some_iff.mp H
        obtain ⟨t214, A370, H⟩ := H
        replace H : (if t214 = true then ((laws_markFilter.f k t196 1).bind fun bt215 => ((laws_heldFilter.f k bt215.2 1).bind fun t217 => (if t217 < 0 then (none) else (if t217 = bt215.1 then ((laws_toFilter.f k l0_0).bind fun t218 => ((laws_toFilter.f k l1_0).bind fun t221 => ((impl_MeetFilters.f k t218 t221).bind fun bt224 => ((laws_eqFilter.f k bt224.1 t183).bind fun t229 => (if t229 = true then (if (bt224.2 != t186) = true then (none) else ((laws_heldFilter.f k bt215.2 1).bind fun t230 => (if t230 < 0 then (none) else (if t230 = bt215.1 then (some true) else (none))))) else (none)))))) else (none))))) else (none)) = some r := H
        have A37 := Aside0.mk A370
        clear A370
        by_cases c38 : t214 = true
        ·subst c38
         have H1 : ((laws_markFilter.f k t196 1).bind fun bt215 => ((laws_heldFilter.f k bt215.2 1).bind fun t217 => (if t217 < 0 then (none) else (if t217 = bt215.1 then ((laws_toFilter.f k l0_0).bind fun t218 => ((laws_toFilter.f k l1_0).bind fun t221 => ((impl_MeetFilters.f k t218 t221).bind fun bt224 => ((laws_eqFilter.f k bt224.1 t183).bind fun t229 => (if t229 = true then (if (bt224.2 != t186) = true then (none) else ((laws_heldFilter.f k bt215.2 1).bind fun t230 => (if t230 < 0 then (none) else (if t230 = bt215.1 then (some true) else (none))))) else (none)))))) else (none))))) = some r := by rw [if_pos rfl] at H; exact H
         clear H
         have H := H1
         clear H1
         replace H := Option.bind_eq_some_iff.mp H
         obtain ⟨⟨t215, t216⟩, A390, H⟩ := H
         replace H : ((laws_heldFilter.f k t216 1).bind fun t217 => (if t217 < 0 then (none) else (if t217 = t215 then ((laws_toFilter.f k l0_0).bind fun t218 => ((laws_toFilter.f k l1_0).bind fun t221 => ((impl_MeetFilters.f k t218 t221).bind fun bt224 => ((laws_eqFilter.f k bt224.1 t183).bind fun t229 => (if t229 = true then (if (bt224.2 != t186) = true then (none) else ((laws_heldFilter.f k t216 1).bind fun t230 => (if t230 < 0 then (none) else (if t230 = t215 then (some true) else (none))))) else (none)))))) else (none)))) = some r := H
         have A39 := Aside0.mk A390
         clear A390
         replace H := Option.bind_eq_some_iff.mp H
         obtain ⟨t217, A400, H⟩ := H
         replace H : (if t217 < 0 then (none) else (if t217 = t215 then ((laws_toFilter.f k l0_0).bind fun t218 => ((laws_toFilter.f k l1_0).bind fun t221 => ((impl_MeetFilters.f k t218 t221).bind fun bt224 => ((laws_eqFilter.f k bt224.1 t183).bind fun t229 => (if t229 = true then (if (bt224.2 != t186) = true then (none) else ((laws_heldFilter.f k t216 1).bind fun t230 => (if t230 < 0 then (none) else (if t230 = t215 then (some true) else (none))))) else (none)))))) else (none))) = some r := H
         have A40 := Aside0.mk A400
         clear A400
         by_cases c41 : t217 < 0
         ·rw [if_pos c41] at H
          exact absurd H (by simp)
         ·rw [if_neg c41] at H
          have c41b0 : decide (t217 < 0) = false := decide_eq_false c41
          clear c41
          by_cases c42 : t217 = t215
          ·rw [if_pos c42] at H
           have c42b0 : (t217 == t215) = true := beq_iff_eq.mpr c42
           have c42b1 : (t217 != t215) = false := bne_eq_false_iff_eq.mpr c42
           clear c42
           replace H := Option.bind_eq_some_iff.mp H
           obtain ⟨t218, A430, H⟩ := H
           replace H : ((laws_toFilter.f k l1_0).bind fun t221 => ((impl_MeetFilters.f k t218 t221).bind fun bt224 => ((laws_eqFilter.f k bt224.1 t183).bind fun t229 => (if t229 = true then (if (bt224.2 != t186) = true then (none) else ((laws_heldFilter.f k t216 1).bind fun t230 => (if t230 < 0 then (none) else (if t230 = t215 then (some true) else (none))))) else (none))))) = some r := H
           have A43 := Aside0.mk A430
           clear A430
           replace H := Option.bind_eq_some_iff.mp H
           obtain ⟨t221, A440, H⟩ := H
           replace H : ((impl_MeetFilters.f k t218 t221).bind fun bt224 => ((laws_eqFilter.f k bt224.1 t183).bind fun t229 => (if t229 = true then (if (bt224.2 != t186) = true then (none) else ((laws_heldFilter.f k t216 1).bind fun t230 => (if t230 < 0 then (none) else (if t230 = t215 then (some true) else (none))))) else (none)))) = some r := H
           have A44 := Aside0.mk A440
           clear A440
           replace H := Option.bind_eq_some_iff.mp H
           obtain ⟨⟨t224, t227⟩, A450, H⟩ := H
           replace H : ((laws_eqFilter.f k t224 t183).bind fun t229 => (if t229 = true then (if (t227 != t186) = true then (none) else ((laws_heldFilter.f k t216 1).bind fun t230 => (if t230 < 0 then (none) else (if t230 = t215 then (some true) else (none))))) else (none))) = some r := H
           have A45 := Aside0.mk A450
           clear A450
           replace H := Option.bind_eq_some_iff.mp H
           obtain ⟨t229, A460, H⟩ := H
           replace H : (if t229 = true then (if (t227 != t186) = true then (none) else ((laws_heldFilter.f k t216 1).bind fun t230 => (if t230 < 0 then (none) else (if t230 = t215 then (some true) else (none))))) else (none)) = some r := H
           have A46 := Aside0.mk A460
           clear A460
           by_cases c47 : t229 = true
           ·subst c47
            have H1 : (if (t227 != t186) = true then (none) else ((laws_heldFilter.f k t216 1).bind fun t230 => (if t230 < 0 then (none) else (if t230 = t215 then (some true) else (none))))) = some r := by rw [if_pos rfl] at H; exact H
            clear H
            have H := H1
            clear H1
            by_cases c48 : (t227 != t186) = true
            ·rw [if_pos c48] at H
             exact absurd H (by simp)
            ·rw [if_neg c48] at H
             have c48b0 : (t227 != t186) = false := by simpa using c48
             (try (have c48b1 : decide (t227 = t186) = true := by simpa using c48))
             (try (have c48b2 : (t227 == t186) = true := by simpa using c48))
             clear c48
             replace H := Option.bind_eq_some_iff.mp H
             obtain ⟨t230, A490, H⟩ := H
             replace H : (if t230 < 0 then (none) else (if t230 = t215 then (some true) else (none))) = some r := H
             have A49 := Aside0.mk A490
             clear A490
             by_cases c50 : t230 < 0
             ·rw [if_pos c50] at H
              exact absurd H (by simp)
             ·rw [if_neg c50] at H
              have c50b0 : decide (t230 < 0) = false := decide_eq_false c50
              clear c50
              by_cases c51 : t230 = t215
              ·rw [if_pos c51] at H
               have c51b0 : (t230 == t215) = true := beq_iff_eq.mpr c51
               have c51b1 : (t230 != t215) = false := bne_eq_false_iff_eq.mpr c51
               clear c51
               obtain rfl := Option.some.inj H
               go_enter Try.func8, Try.ntmps8
               try go_wp2_with (first | ((with_reducible refine gate_dst (N := 2) rfl ?_); refine box_event ?hg (N := 2) ?hd (cs := #[.slice A0_0 l0_0.length c0_0]) (t := 29) ?hr ?_; (case hd => rfl); (case hg => rfl); (case hr => first | (go_simp; done) | (go_simp; rfl)); intro gb173 hg w52 hbox hb; have BK173 := Aside0.mk (hbox); have GW173 := Aside0.mk ((by rw [hg]; exact (below_size (bB HB)) : w.heap.size ≤ gb173)); have GE173 := Aside0.mk ((by rw [hg]; exact (below_size (bB HB)) : w.heap.size ≤ gb173)); replace HB := Aside0.mk (below_step (bB HB) hb); clear hb hbox hg) | ((with_reducible refine gate_dst (N := 3) rfl ?_); refine box_event ?hg (N := 3) ?hd (cs := #[.slice A1_0 l1_0.length c1_0]) (t := 29) ?hr ?_; (case hd => rfl); (case hg => rfl); (case hr => first | (go_simp; done) | (go_simp; rfl)); intro gb174 hg w53 hbox hb; have BK174 := Aside0.mk (hbox); have GW174 := Aside0.mk ((by rw [hg]; exact (below_size (bB HB)) : w.heap.size ≤ gb174)); have GE174 := Aside0.mk ((by rw [hg]; exact (below_size (bB HB)) : w.heap.size ≤ gb174)); replace HB := Aside0.mk (below_step (bB HB) hb); have NB173_174 := Aside0.mk ((by rw [hg]; exact Nat.ne_of_lt (blk_lt (g := gb173) (o := .cells #[.slice A0_0 l0_0.length c0_0] 29 (0, 0)) (kB BK173)) : gb173 ≠ gb174)); have NB174_173 := Aside0.mk ((by rw [hg]; exact Nat.ne_of_gt (blk_lt (g := gb173) (o := .cells #[.slice A0_0 l0_0.length c0_0] 29 (0, 0)) (kB BK173)) : gb174 ≠ gb173)); replace BK173 := Aside0.mk (blk_below (g := gb173) (o := .cells #[.slice A0_0 l0_0.length c0_0] 29 (0, 0)) (kB BK173) hb); clear hb hbox hg; have hnb54 := NB173_174.out; have hnc54 := NB174_173.out; have hcz55_0 : w53.cell? ⟨gb173, 0, none⟩ = some (.slice A0_0 l0_0.length c0_0) := (blk_cell BK173.out 0).trans rfl; have hfz55_0 := blk_frozen BK173.out 0) | ((with_reducible refine gate_callee (f := 15) rfl ?_); refine goesL_ (some 19) rfl rfl Try.func15 (by kernel_rfl) rfl #[.agg #[.slice A0_0 l0_0.length c0_0], .int .i64 1048576] rfl (by (try simp only [List.map_toArray, List.map_cons, List.map_nil]); first | done | rfl | (simp only [List.length_drop, List.length_take]; rfl)) ?_; (with_reducible refine (laws_szFilter.calls _ _ l0_0 1048576 t175 _ ?side1 ?side2 A3.out).mono ?_); (case side1 => repeat (first | exact (Kd.C_below HR0_0.out HB.out) | (with_reducible refine Kd.C_alloc ?_ _) | (with_reducible refine Kd.C_drewN ?_ _) | (with_reducible refine Kd.C_drew ?_))); (case side2 => exact HC0_0.out); rintro e w56 ⟨rfl, hb⟩; refine ⟨_, rfl, ?_⟩; replace BK173 := Aside0.mk (blk_below (g := gb173) (o := .cells #[.slice A0_0 l0_0.length c0_0] 29 (0, 0)) (kB BK173) hb); replace BK174 := Aside0.mk (blk_below (g := gb174) (o := .cells #[.slice A1_0 l1_0.length c1_0] 29 (0, 0)) (kB BK174) hb); replace HB := Aside0.mk (below_step (bB HB) hb); (try clear hb); (try clear hb2); (try clear hk); (try clear hi); have hcz57_0 : w56.cell? ⟨gb174, 0, none⟩ = some (.slice A1_0 l1_0.length c1_0) := (blk_cell BK174.out 0).trans rfl; have hfz57_0 := blk_frozen BK174.out 0) | ((with_reducible refine gate_callee (f := 15) rfl ?_); refine goesL_ (some 24) rfl rfl Try.func15 (by kernel_rfl) rfl #[.agg #[.slice A1_0 l1_0.length c1_0], .int .i64 t175] rfl (by (try simp only [List.map_toArray, List.map_cons, List.map_nil]); first | done | rfl | (simp only [List.length_drop, List.length_take]; rfl)) ?_; (with_reducible refine (laws_szFilter.calls _ _ l1_0 t175 t176 _ ?side1 ?side2 A10.out).mono ?_); (case side1 => repeat (first | exact (Kd.C_below HR1_0.out HB.out) | (with_reducible refine Kd.C_alloc ?_ _) | (with_reducible refine Kd.C_drewN ?_ _) | (with_reducible refine Kd.C_drew ?_))); (case side2 => exact HC1_0.out); rintro e w58 ⟨rfl, hb⟩; refine ⟨_, rfl, ?_⟩; replace BK173 := Aside0.mk (blk_below (g := gb173) (o := .cells #[.slice A0_0 l0_0.length c0_0] 29 (0, 0)) (kB BK173) hb); replace BK174 := Aside0.mk (blk_below (g := gb174) (o := .cells #[.slice A1_0 l1_0.length c1_0] 29 (0, 0)) (kB BK174) hb); replace HB := Aside0.mk (below_step (bB HB) hb); (try clear hb); (try clear hb2); (try clear hk); (try clear hi)))
               replace BK173 := Aside0.mk (blk_drew BK173.out)
               replace BK174 := Aside0.mk (blk_drew BK174.out)
               replace HB := Aside0.mk (below_drew1 HB.out)
               refine start_ (n := 11) (S := fun w' => w'.cell? ⟨gb173, 0, none⟩ = some (.slice A0_0 l0_0.length c0_0) ∧ w'.cell? ⟨gb174, 0, none⟩ = some (.slice A1_0 l1_0.length c1_0)) (ds := []) #[false, false, false, false, false, false, false, false, false, false, false] (by kernel_rfl) rfl rfl ⟨(blk_cell BK173.out 0).trans rfl, (blk_cell BK174.out 0).trans rfl⟩ (fun hHeld => ?_); refine with_tabW laws_FnExactMeetFilters.tab8 laws_FnExactMeetFilters.bits8 (fun HT_ HW_ => ?_)
               generalize w58.drew = w59 at BK173 BK174 HB hHeld ⊢
               refine take_ (i := 0) (N := some 28) (v := ?_) (a' := ?_) #[true, false, false, false, false, false, false, false, false, false, false] rfl rfl (take_ofW HT_.out HW_.out (by kernel_rfl)) (fun _ _ _ h => h) (Or.inl ⟨by rfl, ?_⟩) hHeld ?_ ?_
               rotate_left
               ·rintro w' ⟨s0, s1⟩
                go_simp
                with_reducible rfl
               rotate_left
               ·simp only [Act.put, List.setIfInBounds_toArray, List.set_cons_zero, List.set_cons_succ, i64_w, i32_w]
                rfl
               refine take_ (i := 2) (N := some 30) (v := ?_) (a' := ?_) #[true, false, true, false, false, false, false, false, false, false, false] rfl rfl (take_ofW HT_.out HW_.out (by kernel_rfl)) (fun _ _ _ h => h) (Or.inl ⟨by rfl, ?_⟩) hHeld ?_ ?_
               rotate_left
               ·rintro w' ⟨s0, s1⟩
                go_simp
                with_reducible rfl
               rotate_left
               ·simp only [Act.put, List.setIfInBounds_toArray, List.set_cons_zero, List.set_cons_succ, i64_w, i32_w]
                rfl
               refine join_ (σ := Value × Value × Value × Nat) 2 #[true, true, true, true, true, true, true, true, true, false, false] (fun s_ => [(29, .agg #[s_.1]), (31, .agg #[s_.2.1]), (32, .tuple #[.agg #[s_.2.2.1], .bool t186]), (6, .pointer (some ⟨s_.2.2.2, 0, none⟩)), (27, .tuple #[.agg #[s_.2.2.1], .bool t186]), (33, .agg #[s_.2.2.1]), (34, .bool t186)]) (fun s_ w' => (w'.cell? ⟨gb173, 0, none⟩ = some (.slice A0_0 l0_0.length c0_0) ∧ w'.cell? ⟨gb174, 0, none⟩ = some (.slice A1_0 l1_0.length c1_0)) ∧ (Kd.R Kd.bool 4 w' w.heap.size (fun k_ => some k_ ≠ (s_.2.1 : Value).ownBlock ∧ some k_ ≠ (s_.2.2.1 : Value).ownBlock) s_.1 t177) ∧ (Kd.R Kd.bool 4 w' w.heap.size (fun k_ => some k_ ≠ (s_.1 : Value).ownBlock ∧ some k_ ≠ (s_.2.2.1 : Value).ownBlock) s_.2.1 t180) ∧ (Kd.R Kd.bool 4 w' w.heap.size (fun k_ => some k_ ≠ (s_.1 : Value).ownBlock ∧ some k_ ≠ (s_.2.1 : Value).ownBlock) s_.2.2.1 t183) ∧ (w'.heap[gb173]? = some (.cells #[.slice A0_0 l0_0.length c0_0] 29 (0, 0))) ∧ (w'.heap[gb174]? = some (.cells #[.slice A1_0 l1_0.length c1_0] 29 (0, 0))) ∧ (w'.heap[s_.2.2.2]? = some (.cells #[.slice none 0 0] 32 (0, 0))) ∧ (w.heap.size ≤ s_.2.2.2) ∧ (w.heap.size ≤ s_.2.2.2) ∧ (gb173 ≠ s_.2.2.2) ∧ (s_.2.2.2 ≠ gb173) ∧ (gb174 ≠ s_.2.2.2) ∧ (s_.2.2.2 ≠ gb174) ∧ (Below w.heap.size w w')) ?_ ?_
               rotate_left
               ·intro hCont
                refine two_ (i := 1) (j := 8) (Ni := some 29) (Nj := some 6) #[true, true, true, false, false, false, false, false, false, false, false] #[true, false, true, false, false, false, false, false, true, false, false] rfl rfl rfl rfl (two_of HT_.out (by kernel_rfl)) (by decide) (by decide) (fun K hK => ?_) (fun K hK => ?_)
                ·skip
                 refine goes_ Try.func17 (by kernel_rfl) rfl #[.agg #[.slice A0_0 l0_0.length c0_0]] (by rfl) rfl rfl (by (try simp only [List.map_toArray, List.map_cons, List.map_nil]); first | done | rfl | (simp only [List.length_drop, List.length_take]; rfl)) ?_
                 with_reducible refine (laws_toFilter.calls k _ _ l0_0 t177 _ ?side1 ?side2 A19.out).mono ?_
                 (case side1 => repeat (first | exact (Kd.C_below HR0_0.out HB.out) | (with_reducible refine Kd.C_alloc ?_ _) | (with_reducible refine Kd.C_drewN ?_ _) | (with_reducible refine Kd.C_drew ?_)))
                 (case side2 => exact HC0_0.out)
                 rintro e w60 ⟨v178, rfl, ho0, hb⟩
                 refine ⟨_, rfl, ?_⟩
                 have HO179 := Aside0.mk (Kd.R_lower ho0 (below_size (bB HB)))
                 replace BK173 := Aside0.mk (blk_below (g := gb173) (o := .cells #[.slice A0_0 l0_0.length c0_0] 29 (0, 0)) (kB BK173) hb)
                 replace BK174 := Aside0.mk (blk_below (g := gb174) (o := .cells #[.slice A1_0 l1_0.length c1_0] 29 (0, 0)) (kB BK174) hb)
                 replace HB := Aside0.mk (below_step (bB HB) hb)
                 (try clear hb);(try clear hb2);(try clear hk);(try clear hi);(try clear ho0)
                 refine hK.out _ _ ⟨(blk_cell BK173.out 0).trans rfl, (blk_cell BK174.out 0).trans rfl⟩ (fun hHeld => ?_)
                 clear hK K
                 refine norm_ (a' := ?_) ?_ ?_
                 rotate_left
                 ·show Act.put _ (some 29) _ = _
                  simp only [Act.put, List.setIfInBounds_toArray, List.set_cons_zero, List.set_cons_succ, i64_w, i32_w]
                  rfl
                 refine two_ (i := 3) (j := 8) (Ni := some 31) (Nj := some 6) #[true, true, true, true, false, false, false, false, false, false, false] #[true, true, true, false, false, false, false, false, true, false, false] rfl rfl rfl rfl (two_of HT_.out (by kernel_rfl)) (by decide) (by decide) (fun K hK => ?_) (fun K hK => ?_)
                 ·skip
                  refine goes_ Try.func17 (by kernel_rfl) rfl #[.agg #[.slice A1_0 l1_0.length c1_0]] (by rfl) rfl rfl (by (try simp only [List.map_toArray, List.map_cons, List.map_nil]); first | done | rfl | (simp only [List.length_drop, List.length_take]; rfl)) ?_
                  with_reducible refine (laws_toFilter.calls k _ _ l1_0 t180 _ ?side1 ?side2 A20.out).mono ?_
                  (case side1 => repeat (first | exact (Kd.C_below HR1_0.out HB.out) | (with_reducible refine Kd.C_alloc ?_ _) | (with_reducible refine Kd.C_drewN ?_ _) | (with_reducible refine Kd.C_drew ?_)))
                  (case side2 => exact HC1_0.out)
                  rintro e w61 ⟨v181, rfl, ho0, hb⟩
                  refine ⟨_, rfl, ?_⟩
                  have HO182 := Aside0.mk (Kd.R_lower (Kd.R_new' ho0 (Kd.R_lt (aR HO179))) (below_size (bB HB)))
                  replace HO179 := Aside0.mk (Kd.R_elder' (aR HO179) (Kd.R_base ho0) hb)
                  replace BK173 := Aside0.mk (blk_below (g := gb173) (o := .cells #[.slice A0_0 l0_0.length c0_0] 29 (0, 0)) (kB BK173) hb)
                  replace BK174 := Aside0.mk (blk_below (g := gb174) (o := .cells #[.slice A1_0 l1_0.length c1_0] 29 (0, 0)) (kB BK174) hb)
                  replace HB := Aside0.mk (below_step (bB HB) hb)
                  (try clear hb);(try clear hb2);(try clear hk);(try clear hi);(try clear ho0)
                  obtain ⟨Ao62, co62, eo62⟩ := Kd.R_slice HO179.out
                  (first | subst eo62 | (injection eo62 with f1_ f2_ f3_; have f4_ := f1_.symm; have f5_ := f3_.symm; clear f1_ f2_ f3_; subst f4_; subst f5_))
                  obtain ⟨Ao63, co63, eo63⟩ := Kd.R_slice HO182.out
                  (first | subst eo63 | (injection eo63 with f1_ f2_ f3_; have f4_ := f1_.symm; have f5_ := f3_.symm; clear f1_ f2_ f3_; subst f4_; subst f5_))
                  refine hK.out _ _ ⟨(blk_cell BK173.out 0).trans rfl, (blk_cell BK174.out 0).trans rfl⟩ (fun hHeld => ?_)
                  clear hK K
                  refine norm_ (a' := ?_) ?_ ?_
                  rotate_left
                  ·show Act.put _ (some 31) _ = _
                   simp only [Act.put, List.setIfInBounds_toArray, List.set_cons_zero, List.set_cons_succ, i64_w, i32_w]
                   rfl
                  refine two_ (i := 4) (j := 8) (Ni := some 32) (Nj := some 6) #[true, true, true, true, true, false, false, false, false, false, false] #[true, true, true, true, false, false, false, false, true, false, false] rfl rfl rfl rfl (two_of HT_.out (by kernel_rfl)) (by decide) (by decide) (fun K hK => ?_) (fun K hK => ?_)
                  ·skip
                   refine goes_ Try.func24 (by kernel_rfl) rfl #[.agg #[.slice Ao62 t177.length co62], .agg #[.slice Ao63 t180.length co63]] (by rfl) rfl rfl (by (try simp only [List.map_toArray, List.map_cons, List.map_nil]); first | done | rfl | (simp only [List.length_drop, List.length_take]; rfl)) ?_
                   with_reducible refine (spec_MeetFilters.calls k _ _ t177 _ _ t180 t183 t186 _ ?side1 ?side2 ?side3 ?side4 A21.out).mono ?_
                   (case side1 => repeat (first | exact (Kd.R_reads' HO179.out).2.2 | (with_reducible refine Kd.C_alloc ?_ _) | (with_reducible refine Kd.C_drewN ?_ _) | (with_reducible refine Kd.C_drew ?_)))
                   (case side2 => exact (Kd.R_reads' HO179.out).2.1)
                   (case side3 => repeat (first | exact (Kd.R_reads' HO182.out).2.2 | (with_reducible refine Kd.C_alloc ?_ _) | (with_reducible refine Kd.C_drewN ?_ _) | (with_reducible refine Kd.C_drew ?_)))
                   (case side4 => exact (Kd.R_reads' HO182.out).2.1)
                   rintro e w64 ⟨v184, rfl, ho0, hb⟩
                   refine ⟨_, rfl, ?_⟩
                   have HO185 := Aside0.mk (Kd.R_lower (Kd.R_new' (Kd.R_new' ho0 (Kd.R_lt (aR HO179))) (Kd.R_lt (aR HO182))) (below_size (bB HB)))
                   replace HO179 := Aside0.mk (Kd.R_elder' (aR HO179) (Kd.R_base ho0) hb)
                   replace HO182 := Aside0.mk (Kd.R_elder' (aR HO182) (Kd.R_base ho0) hb)
                   replace BK173 := Aside0.mk (blk_below (g := gb173) (o := .cells #[.slice A0_0 l0_0.length c0_0] 29 (0, 0)) (kB BK173) hb)
                   replace BK174 := Aside0.mk (blk_below (g := gb174) (o := .cells #[.slice A1_0 l1_0.length c1_0] 29 (0, 0)) (kB BK174) hb)
                   replace HB := Aside0.mk (below_step (bB HB) hb)
                   (try clear hb);(try clear hb2);(try clear hk);(try clear hi);(try clear ho0)
                   refine hK.out _ _ ⟨(blk_cell BK173.out 0).trans rfl, (blk_cell BK174.out 0).trans rfl⟩ (fun hHeld => ?_)
                   clear hK K
                   refine norm_ (a' := ?_) ?_ ?_
                   rotate_left
                   ·show Act.put _ (some 32) _ = _
                    simp only [Act.put, List.setIfInBounds_toArray, List.set_cons_zero, List.set_cons_succ, i64_w, i32_w]
                    rfl
                   refine pure_ (i := 5) (N := some 27) (v := ?_) (a' := ?_) #[true, true, true, true, true, true, false, false, false, false, false] rfl rfl (any_of HT_.out (by kernel_rfl)) (fun _ _ _ h => h) (Or.inl ⟨by rfl, ?_⟩) ?_ ?_
                   rotate_left
                   ·intro w'
                    go_simp
                    with_reducible rfl
                   rotate_left
                   ·simp only [Act.put, List.setIfInBounds_toArray, List.set_cons_zero, List.set_cons_succ, i64_w, i32_w]
                    rfl
                   refine pure_ (i := 6) (N := some 33) (v := ?_) (a' := ?_) #[true, true, true, true, true, true, true, false, false, false, false] rfl rfl (any_of HT_.out (by kernel_rfl)) (fun _ _ _ h => h) (Or.inl ⟨by rfl, ?_⟩) ?_ ?_
                   rotate_left
                   ·intro w'
                    go_simp
                    with_reducible rfl
                   rotate_left
                   ·simp only [Act.put, List.setIfInBounds_toArray, List.set_cons_zero, List.set_cons_succ, i64_w, i32_w]
                    rfl
                   refine pure_ (i := 7) (N := some 34) (v := ?_) (a' := ?_) #[true, true, true, true, true, true, true, true, false, false, false] rfl rfl (any_of HT_.out (by kernel_rfl)) (fun _ _ _ h => h) (Or.inl ⟨by rfl, ?_⟩) ?_ ?_
                   rotate_left
                   ·intro w'
                    go_simp
                    with_reducible rfl
                   rotate_left
                   ·simp only [Act.put, List.setIfInBounds_toArray, List.set_cons_zero, List.set_cons_succ, i64_w, i32_w]
                    rfl
                   refine one_ (i := 8) (N := some 6) #[true, true, true, true, true, true, true, true, true, false, false] rfl rfl (one_of HT_.out (by kernel_rfl)) (by decide) (fun K hK => ?_)
                   refine box_step ?hg (N := 6) ?hd (cs := #[.slice none 0 0]) (t := 32) ?hr ?_; (case hd => rfl); (case hg => rfl); (case hr => first | (go_simp; done) | (go_simp; rfl))
                   intro gb187 hg w65 hbox hb
                   replace HO179 := Aside0.mk (Kd.R_below (aR HO179) hb)
                   replace HO182 := Aside0.mk (Kd.R_below (aR HO182) hb)
                   replace HO185 := Aside0.mk (Kd.R_below (aR HO185) hb)
                   have BK187 := Aside0.mk (hbox)
                   have GW187 := Aside0.mk ((by rw [hg]; exact (below_size (bB HB)) : w.heap.size ≤ gb187))
                   have GE187 := Aside0.mk ((by rw [hg]; exact (below_size (bB HB)) : w.heap.size ≤ gb187))
                   replace HB := Aside0.mk (below_step (bB HB) hb)
                   have NB173_187 := Aside0.mk ((by rw [hg]; exact Nat.ne_of_lt (blk_lt (g := gb173) (o := .cells #[.slice A0_0 l0_0.length c0_0] 29 (0, 0)) (kB BK173)) : gb173 ≠ gb187))
                   have NB187_173 := Aside0.mk ((by rw [hg]; exact Nat.ne_of_gt (blk_lt (g := gb173) (o := .cells #[.slice A0_0 l0_0.length c0_0] 29 (0, 0)) (kB BK173)) : gb187 ≠ gb173))
                   replace BK173 := Aside0.mk (blk_below (g := gb173) (o := .cells #[.slice A0_0 l0_0.length c0_0] 29 (0, 0)) (kB BK173) hb)
                   have NB174_187 := Aside0.mk ((by rw [hg]; exact Nat.ne_of_lt (blk_lt (g := gb174) (o := .cells #[.slice A1_0 l1_0.length c1_0] 29 (0, 0)) (kB BK174)) : gb174 ≠ gb187))
                   have NB187_174 := Aside0.mk ((by rw [hg]; exact Nat.ne_of_gt (blk_lt (g := gb174) (o := .cells #[.slice A1_0 l1_0.length c1_0] 29 (0, 0)) (kB BK174)) : gb187 ≠ gb174))
                   replace BK174 := Aside0.mk (blk_below (g := gb174) (o := .cells #[.slice A1_0 l1_0.length c1_0] 29 (0, 0)) (kB BK174) hb)
                   clear hb hbox hg
                   refine hK.out _ _ ⟨(blk_cell BK173.out 0).trans rfl, (blk_cell BK174.out 0).trans rfl⟩ (fun hHeld => ?_)
                   clear hK K
                   refine norm_ (a' := ?_) ?_ ?_
                   rotate_left
                   ·show Act.put _ (some 6) _ = _
                    simp only [Act.put, List.setIfInBounds_toArray, List.set_cons_zero, List.set_cons_succ, i64_w, i32_w]
                    rfl
                   exact norm_ (by simp only [putAll, Act.put, List.setIfInBounds_toArray, List.set_cons_zero, List.set_cons_succ]) (hCont (.slice Ao62 t177.length co62, .slice Ao63 t180.length co63, v184, gb187) _ ⟨hHeld, (by (with_reducible repeat (first | apply Kd.R_alloc | apply Kd.R_drewN | apply Kd.R_drew)); exact Kd.R_mono HO179.out (fun _ hk => ⟨hk.1.2, hk.2⟩)), (by (with_reducible repeat (first | apply Kd.R_alloc | apply Kd.R_drewN | apply Kd.R_drew)); exact Kd.R_mono HO182.out (fun _ hk => ⟨hk.1.2, hk.2⟩)), (by (with_reducible repeat (first | apply Kd.R_alloc | apply Kd.R_drewN | apply Kd.R_drew)); exact Kd.R_mono HO185.out (fun _ hk => ⟨hk.1.2, hk.2⟩)), (kB BK173), (kB BK174), (kB BK187), GW187.out, GE187.out, NB173_187.out, NB187_173.out, NB174_187.out, NB187_174.out, (bB HB)⟩)
                  ·skip
                   refine box_step ?hg (N := 6) ?hd (cs := #[.slice none 0 0]) (t := 32) ?hr ?_; (case hd => rfl); (case hg => rfl); (case hr => first | (go_simp; done) | (go_simp; rfl))
                   intro gb187 hg w62 hbox hb
                   replace HO179 := Aside0.mk (Kd.R_below (aR HO179) hb)
                   replace HO182 := Aside0.mk (Kd.R_below (aR HO182) hb)
                   have BK187 := Aside0.mk (hbox)
                   have GW187 := Aside0.mk ((by rw [hg]; exact (below_size (bB HB)) : w.heap.size ≤ gb187))
                   have GE187 := Aside0.mk ((by rw [hg]; exact (below_size (bB HB)) : w.heap.size ≤ gb187))
                   replace HB := Aside0.mk (below_step (bB HB) hb)
                   have NB173_187 := Aside0.mk ((by rw [hg]; exact Nat.ne_of_lt (blk_lt (g := gb173) (o := .cells #[.slice A0_0 l0_0.length c0_0] 29 (0, 0)) (kB BK173)) : gb173 ≠ gb187))
                   have NB187_173 := Aside0.mk ((by rw [hg]; exact Nat.ne_of_gt (blk_lt (g := gb173) (o := .cells #[.slice A0_0 l0_0.length c0_0] 29 (0, 0)) (kB BK173)) : gb187 ≠ gb173))
                   replace BK173 := Aside0.mk (blk_below (g := gb173) (o := .cells #[.slice A0_0 l0_0.length c0_0] 29 (0, 0)) (kB BK173) hb)
                   have NB174_187 := Aside0.mk ((by rw [hg]; exact Nat.ne_of_lt (blk_lt (g := gb174) (o := .cells #[.slice A1_0 l1_0.length c1_0] 29 (0, 0)) (kB BK174)) : gb174 ≠ gb187))
                   have NB187_174 := Aside0.mk ((by rw [hg]; exact Nat.ne_of_gt (blk_lt (g := gb174) (o := .cells #[.slice A1_0 l1_0.length c1_0] 29 (0, 0)) (kB BK174)) : gb187 ≠ gb174))
                   replace BK174 := Aside0.mk (blk_below (g := gb174) (o := .cells #[.slice A1_0 l1_0.length c1_0] 29 (0, 0)) (kB BK174) hb)
                   clear hb hbox hg
                   obtain ⟨Ao63, co63, eo63⟩ := Kd.R_slice HO179.out
                   (first | subst eo63 | (injection eo63 with f1_ f2_ f3_; have f4_ := f1_.symm; have f5_ := f3_.symm; clear f1_ f2_ f3_; subst f4_; subst f5_))
                   obtain ⟨Ao64, co64, eo64⟩ := Kd.R_slice HO182.out
                   (first | subst eo64 | (injection eo64 with f1_ f2_ f3_; have f4_ := f1_.symm; have f5_ := f3_.symm; clear f1_ f2_ f3_; subst f4_; subst f5_))
                   refine hK.out _ _ ⟨(blk_cell BK173.out 0).trans rfl, (blk_cell BK174.out 0).trans rfl⟩ (fun hHeld => ?_)
                   clear hK K
                   refine norm_ (a' := ?_) ?_ ?_
                   rotate_left
                   ·show Act.put _ (some 6) _ = _
                    simp only [Act.put, List.setIfInBounds_toArray, List.set_cons_zero, List.set_cons_succ, i64_w, i32_w]
                    rfl
                   refine one_ (i := 4) (N := some 32) #[true, true, true, true, true, false, false, false, true, false, false] rfl rfl (one_of HT_.out (by kernel_rfl)) (by decide) (fun K hK => ?_)
                   refine goes_ Try.func24 (by kernel_rfl) rfl #[.agg #[.slice Ao63 t177.length co63], .agg #[.slice Ao64 t180.length co64]] (by rfl) rfl rfl (by (try simp only [List.map_toArray, List.map_cons, List.map_nil]); first | done | rfl | (simp only [List.length_drop, List.length_take]; rfl)) ?_
                   with_reducible refine (spec_MeetFilters.calls k _ _ t177 _ _ t180 t183 t186 _ ?side1 ?side2 ?side3 ?side4 A21.out).mono ?_
                   (case side1 => repeat (first | exact (Kd.R_reads' HO179.out).2.2 | (with_reducible refine Kd.C_alloc ?_ _) | (with_reducible refine Kd.C_drewN ?_ _) | (with_reducible refine Kd.C_drew ?_)))
                   (case side2 => exact (Kd.R_reads' HO179.out).2.1)
                   (case side3 => repeat (first | exact (Kd.R_reads' HO182.out).2.2 | (with_reducible refine Kd.C_alloc ?_ _) | (with_reducible refine Kd.C_drewN ?_ _) | (with_reducible refine Kd.C_drew ?_)))
                   (case side4 => exact (Kd.R_reads' HO182.out).2.1)
                   rintro e w65 ⟨v184, rfl, ho0, hb⟩
                   refine ⟨_, rfl, ?_⟩
                   have HO185 := Aside0.mk (Kd.R_lower (Kd.R_new' (Kd.R_new' ho0 (Kd.R_lt (aR HO179))) (Kd.R_lt (aR HO182))) (below_size (bB HB)))
                   replace HO179 := Aside0.mk (Kd.R_elder' (aR HO179) (Kd.R_base ho0) hb)
                   replace HO182 := Aside0.mk (Kd.R_elder' (aR HO182) (Kd.R_base ho0) hb)
                   replace BK173 := Aside0.mk (blk_below (g := gb173) (o := .cells #[.slice A0_0 l0_0.length c0_0] 29 (0, 0)) (kB BK173) hb)
                   replace BK174 := Aside0.mk (blk_below (g := gb174) (o := .cells #[.slice A1_0 l1_0.length c1_0] 29 (0, 0)) (kB BK174) hb)
                   replace BK187 := Aside0.mk (blk_below (g := gb187) (o := .cells #[.slice none 0 0] 32 (0, 0)) (kB BK187) hb)
                   replace HB := Aside0.mk (below_step (bB HB) hb)
                   (try clear hb);(try clear hb2);(try clear hk);(try clear hi);(try clear ho0)
                   refine hK.out _ _ ⟨(blk_cell BK173.out 0).trans rfl, (blk_cell BK174.out 0).trans rfl⟩ (fun hHeld => ?_)
                   clear hK K
                   refine norm_ (a' := ?_) ?_ ?_
                   rotate_left
                   ·show Act.put _ (some 32) _ = _
                    simp only [Act.put, List.setIfInBounds_toArray, List.set_cons_zero, List.set_cons_succ, i64_w, i32_w]
                    rfl
                   refine pure_ (i := 5) (N := some 27) (v := ?_) (a' := ?_) #[true, true, true, true, true, true, false, false, true, false, false] rfl rfl (any_of HT_.out (by kernel_rfl)) (fun _ _ _ h => h) (Or.inl ⟨by rfl, ?_⟩) ?_ ?_
                   rotate_left
                   ·intro w'
                    go_simp
                    with_reducible rfl
                   rotate_left
                   ·simp only [Act.put, List.setIfInBounds_toArray, List.set_cons_zero, List.set_cons_succ, i64_w, i32_w]
                    rfl
                   refine pure_ (i := 6) (N := some 33) (v := ?_) (a' := ?_) #[true, true, true, true, true, true, true, false, true, false, false] rfl rfl (any_of HT_.out (by kernel_rfl)) (fun _ _ _ h => h) (Or.inl ⟨by rfl, ?_⟩) ?_ ?_
                   rotate_left
                   ·intro w'
                    go_simp
                    with_reducible rfl
                   rotate_left
                   ·simp only [Act.put, List.setIfInBounds_toArray, List.set_cons_zero, List.set_cons_succ, i64_w, i32_w]
                    rfl
                   refine pure_ (i := 7) (N := some 34) (v := ?_) (a' := ?_) #[true, true, true, true, true, true, true, true, true, false, false] rfl rfl (any_of HT_.out (by kernel_rfl)) (fun _ _ _ h => h) (Or.inl ⟨by rfl, ?_⟩) ?_ ?_
                   rotate_left
                   ·intro w'
                    go_simp
                    with_reducible rfl
                   rotate_left
                   ·simp only [Act.put, List.setIfInBounds_toArray, List.set_cons_zero, List.set_cons_succ, i64_w, i32_w]
                    rfl
                   exact norm_ (by simp only [putAll, Act.put, List.setIfInBounds_toArray, List.set_cons_zero, List.set_cons_succ]) (hCont (.slice Ao63 t177.length co63, .slice Ao64 t180.length co64, v184, gb187) _ ⟨hHeld, (by (with_reducible repeat (first | apply Kd.R_alloc | apply Kd.R_drewN | apply Kd.R_drew)); exact Kd.R_mono HO179.out (fun _ hk => ⟨hk.1.2, hk.2⟩)), (by (with_reducible repeat (first | apply Kd.R_alloc | apply Kd.R_drewN | apply Kd.R_drew)); exact Kd.R_mono HO182.out (fun _ hk => ⟨hk.1.2, hk.2⟩)), (by (with_reducible repeat (first | apply Kd.R_alloc | apply Kd.R_drewN | apply Kd.R_drew)); exact Kd.R_mono HO185.out (fun _ hk => ⟨hk.1.2, hk.2⟩)), (kB BK173), (kB BK174), (kB BK187), GW187.out, GE187.out, NB173_187.out, NB187_173.out, NB174_187.out, NB187_174.out, (bB HB)⟩)
                 ·skip
                  refine box_step ?hg (N := 6) ?hd (cs := #[.slice none 0 0]) (t := 32) ?hr ?_; (case hd => rfl); (case hg => rfl); (case hr => first | (go_simp; done) | (go_simp; rfl))
                  intro gb187 hg w61 hbox hb
                  replace HO179 := Aside0.mk (Kd.R_below (aR HO179) hb)
                  have BK187 := Aside0.mk (hbox)
                  have GW187 := Aside0.mk ((by rw [hg]; exact (below_size (bB HB)) : w.heap.size ≤ gb187))
                  have GE187 := Aside0.mk ((by rw [hg]; exact (below_size (bB HB)) : w.heap.size ≤ gb187))
                  replace HB := Aside0.mk (below_step (bB HB) hb)
                  have NB173_187 := Aside0.mk ((by rw [hg]; exact Nat.ne_of_lt (blk_lt (g := gb173) (o := .cells #[.slice A0_0 l0_0.length c0_0] 29 (0, 0)) (kB BK173)) : gb173 ≠ gb187))
                  have NB187_173 := Aside0.mk ((by rw [hg]; exact Nat.ne_of_gt (blk_lt (g := gb173) (o := .cells #[.slice A0_0 l0_0.length c0_0] 29 (0, 0)) (kB BK173)) : gb187 ≠ gb173))
                  replace BK173 := Aside0.mk (blk_below (g := gb173) (o := .cells #[.slice A0_0 l0_0.length c0_0] 29 (0, 0)) (kB BK173) hb)
                  have NB174_187 := Aside0.mk ((by rw [hg]; exact Nat.ne_of_lt (blk_lt (g := gb174) (o := .cells #[.slice A1_0 l1_0.length c1_0] 29 (0, 0)) (kB BK174)) : gb174 ≠ gb187))
                  have NB187_174 := Aside0.mk ((by rw [hg]; exact Nat.ne_of_gt (blk_lt (g := gb174) (o := .cells #[.slice A1_0 l1_0.length c1_0] 29 (0, 0)) (kB BK174)) : gb187 ≠ gb174))
                  replace BK174 := Aside0.mk (blk_below (g := gb174) (o := .cells #[.slice A1_0 l1_0.length c1_0] 29 (0, 0)) (kB BK174) hb)
                  clear hb hbox hg
                  refine hK.out _ _ ⟨(blk_cell BK173.out 0).trans rfl, (blk_cell BK174.out 0).trans rfl⟩ (fun hHeld => ?_)
                  clear hK K
                  refine norm_ (a' := ?_) ?_ ?_
                  rotate_left
                  ·show Act.put _ (some 6) _ = _
                   simp only [Act.put, List.setIfInBounds_toArray, List.set_cons_zero, List.set_cons_succ, i64_w, i32_w]
                   rfl
                  refine one_ (i := 3) (N := some 31) #[true, true, true, true, false, false, false, false, true, false, false] rfl rfl (one_of HT_.out (by kernel_rfl)) (by decide) (fun K hK => ?_)
                  refine goes_ Try.func17 (by kernel_rfl) rfl #[.agg #[.slice A1_0 l1_0.length c1_0]] (by rfl) rfl rfl (by (try simp only [List.map_toArray, List.map_cons, List.map_nil]); first | done | rfl | (simp only [List.length_drop, List.length_take]; rfl)) ?_
                  with_reducible refine (laws_toFilter.calls k _ _ l1_0 t180 _ ?side1 ?side2 A20.out).mono ?_
                  (case side1 => repeat (first | exact (Kd.C_below HR1_0.out HB.out) | (with_reducible refine Kd.C_alloc ?_ _) | (with_reducible refine Kd.C_drewN ?_ _) | (with_reducible refine Kd.C_drew ?_)))
                  (case side2 => exact HC1_0.out)
                  rintro e w62 ⟨v181, rfl, ho0, hb⟩
                  refine ⟨_, rfl, ?_⟩
                  have HO182 := Aside0.mk (Kd.R_lower (Kd.R_new' ho0 (Kd.R_lt (aR HO179))) (below_size (bB HB)))
                  replace HO179 := Aside0.mk (Kd.R_elder' (aR HO179) (Kd.R_base ho0) hb)
                  replace BK173 := Aside0.mk (blk_below (g := gb173) (o := .cells #[.slice A0_0 l0_0.length c0_0] 29 (0, 0)) (kB BK173) hb)
                  replace BK174 := Aside0.mk (blk_below (g := gb174) (o := .cells #[.slice A1_0 l1_0.length c1_0] 29 (0, 0)) (kB BK174) hb)
                  replace BK187 := Aside0.mk (blk_below (g := gb187) (o := .cells #[.slice none 0 0] 32 (0, 0)) (kB BK187) hb)
                  replace HB := Aside0.mk (below_step (bB HB) hb)
                  (try clear hb);(try clear hb2);(try clear hk);(try clear hi);(try clear ho0)
                  obtain ⟨Ao63, co63, eo63⟩ := Kd.R_slice HO179.out
                  (first | subst eo63 | (injection eo63 with f1_ f2_ f3_; have f4_ := f1_.symm; have f5_ := f3_.symm; clear f1_ f2_ f3_; subst f4_; subst f5_))
                  obtain ⟨Ao64, co64, eo64⟩ := Kd.R_slice HO182.out
                  (first | subst eo64 | (injection eo64 with f1_ f2_ f3_; have f4_ := f1_.symm; have f5_ := f3_.symm; clear f1_ f2_ f3_; subst f4_; subst f5_))
                  refine hK.out _ _ ⟨(blk_cell BK173.out 0).trans rfl, (blk_cell BK174.out 0).trans rfl⟩ (fun hHeld => ?_)
                  clear hK K
                  refine norm_ (a' := ?_) ?_ ?_
                  rotate_left
                  ·show Act.put _ (some 31) _ = _
                   simp only [Act.put, List.setIfInBounds_toArray, List.set_cons_zero, List.set_cons_succ, i64_w, i32_w]
                   rfl
                  refine one_ (i := 4) (N := some 32) #[true, true, true, true, true, false, false, false, true, false, false] rfl rfl (one_of HT_.out (by kernel_rfl)) (by decide) (fun K hK => ?_)
                  refine goes_ Try.func24 (by kernel_rfl) rfl #[.agg #[.slice Ao63 t177.length co63], .agg #[.slice Ao64 t180.length co64]] (by rfl) rfl rfl (by (try simp only [List.map_toArray, List.map_cons, List.map_nil]); first | done | rfl | (simp only [List.length_drop, List.length_take]; rfl)) ?_
                  with_reducible refine (spec_MeetFilters.calls k _ _ t177 _ _ t180 t183 t186 _ ?side1 ?side2 ?side3 ?side4 A21.out).mono ?_
                  (case side1 => repeat (first | exact (Kd.R_reads' HO179.out).2.2 | (with_reducible refine Kd.C_alloc ?_ _) | (with_reducible refine Kd.C_drewN ?_ _) | (with_reducible refine Kd.C_drew ?_)))
                  (case side2 => exact (Kd.R_reads' HO179.out).2.1)
                  (case side3 => repeat (first | exact (Kd.R_reads' HO182.out).2.2 | (with_reducible refine Kd.C_alloc ?_ _) | (with_reducible refine Kd.C_drewN ?_ _) | (with_reducible refine Kd.C_drew ?_)))
                  (case side4 => exact (Kd.R_reads' HO182.out).2.1)
                  rintro e w65 ⟨v184, rfl, ho0, hb⟩
                  refine ⟨_, rfl, ?_⟩
                  have HO185 := Aside0.mk (Kd.R_lower (Kd.R_new' (Kd.R_new' ho0 (Kd.R_lt (aR HO179))) (Kd.R_lt (aR HO182))) (below_size (bB HB)))
                  replace HO179 := Aside0.mk (Kd.R_elder' (aR HO179) (Kd.R_base ho0) hb)
                  replace HO182 := Aside0.mk (Kd.R_elder' (aR HO182) (Kd.R_base ho0) hb)
                  replace BK173 := Aside0.mk (blk_below (g := gb173) (o := .cells #[.slice A0_0 l0_0.length c0_0] 29 (0, 0)) (kB BK173) hb)
                  replace BK174 := Aside0.mk (blk_below (g := gb174) (o := .cells #[.slice A1_0 l1_0.length c1_0] 29 (0, 0)) (kB BK174) hb)
                  replace BK187 := Aside0.mk (blk_below (g := gb187) (o := .cells #[.slice none 0 0] 32 (0, 0)) (kB BK187) hb)
                  replace HB := Aside0.mk (below_step (bB HB) hb)
                  (try clear hb);(try clear hb2);(try clear hk);(try clear hi);(try clear ho0)
                  refine hK.out _ _ ⟨(blk_cell BK173.out 0).trans rfl, (blk_cell BK174.out 0).trans rfl⟩ (fun hHeld => ?_)
                  clear hK K
                  refine norm_ (a' := ?_) ?_ ?_
                  rotate_left
                  ·show Act.put _ (some 32) _ = _
                   simp only [Act.put, List.setIfInBounds_toArray, List.set_cons_zero, List.set_cons_succ, i64_w, i32_w]
                   rfl
                  refine pure_ (i := 5) (N := some 27) (v := ?_) (a' := ?_) #[true, true, true, true, true, true, false, false, true, false, false] rfl rfl (any_of HT_.out (by kernel_rfl)) (fun _ _ _ h => h) (Or.inl ⟨by rfl, ?_⟩) ?_ ?_
                  rotate_left
                  ·intro w'
                   go_simp
                   with_reducible rfl
                  rotate_left
                  ·simp only [Act.put, List.setIfInBounds_toArray, List.set_cons_zero, List.set_cons_succ, i64_w, i32_w]
                   rfl
                  refine pure_ (i := 6) (N := some 33) (v := ?_) (a' := ?_) #[true, true, true, true, true, true, true, false, true, false, false] rfl rfl (any_of HT_.out (by kernel_rfl)) (fun _ _ _ h => h) (Or.inl ⟨by rfl, ?_⟩) ?_ ?_
                  rotate_left
                  ·intro w'
                   go_simp
                   with_reducible rfl
                  rotate_left
                  ·simp only [Act.put, List.setIfInBounds_toArray, List.set_cons_zero, List.set_cons_succ, i64_w, i32_w]
                   rfl
                  refine pure_ (i := 7) (N := some 34) (v := ?_) (a' := ?_) #[true, true, true, true, true, true, true, true, true, false, false] rfl rfl (any_of HT_.out (by kernel_rfl)) (fun _ _ _ h => h) (Or.inl ⟨by rfl, ?_⟩) ?_ ?_
                  rotate_left
                  ·intro w'
                   go_simp
                   with_reducible rfl
                  rotate_left
                  ·simp only [Act.put, List.setIfInBounds_toArray, List.set_cons_zero, List.set_cons_succ, i64_w, i32_w]
                   rfl
                  exact norm_ (by simp only [putAll, Act.put, List.setIfInBounds_toArray, List.set_cons_zero, List.set_cons_succ]) (hCont (.slice Ao63 t177.length co63, .slice Ao64 t180.length co64, v184, gb187) _ ⟨hHeld, (by (with_reducible repeat (first | apply Kd.R_alloc | apply Kd.R_drewN | apply Kd.R_drew)); exact Kd.R_mono HO179.out (fun _ hk => ⟨hk.1.2, hk.2⟩)), (by (with_reducible repeat (first | apply Kd.R_alloc | apply Kd.R_drewN | apply Kd.R_drew)); exact Kd.R_mono HO182.out (fun _ hk => ⟨hk.1.2, hk.2⟩)), (by (with_reducible repeat (first | apply Kd.R_alloc | apply Kd.R_drewN | apply Kd.R_drew)); exact Kd.R_mono HO185.out (fun _ hk => ⟨hk.1.2, hk.2⟩)), (kB BK173), (kB BK174), (kB BK187), GW187.out, GE187.out, NB173_187.out, NB187_173.out, NB174_187.out, NB187_174.out, (bB HB)⟩)
                ·skip
                 refine box_step ?hg (N := 6) ?hd (cs := #[.slice none 0 0]) (t := 32) ?hr ?_; (case hd => rfl); (case hg => rfl); (case hr => first | (go_simp; done) | (go_simp; rfl))
                 intro gb187 hg w60 hbox hb
                 have BK187 := Aside0.mk (hbox)
                 have GW187 := Aside0.mk ((by rw [hg]; exact (below_size (bB HB)) : w.heap.size ≤ gb187))
                 have GE187 := Aside0.mk ((by rw [hg]; exact (below_size (bB HB)) : w.heap.size ≤ gb187))
                 replace HB := Aside0.mk (below_step (bB HB) hb)
                 have NB173_187 := Aside0.mk ((by rw [hg]; exact Nat.ne_of_lt (blk_lt (g := gb173) (o := .cells #[.slice A0_0 l0_0.length c0_0] 29 (0, 0)) (kB BK173)) : gb173 ≠ gb187))
                 have NB187_173 := Aside0.mk ((by rw [hg]; exact Nat.ne_of_gt (blk_lt (g := gb173) (o := .cells #[.slice A0_0 l0_0.length c0_0] 29 (0, 0)) (kB BK173)) : gb187 ≠ gb173))
                 replace BK173 := Aside0.mk (blk_below (g := gb173) (o := .cells #[.slice A0_0 l0_0.length c0_0] 29 (0, 0)) (kB BK173) hb)
                 have NB174_187 := Aside0.mk ((by rw [hg]; exact Nat.ne_of_lt (blk_lt (g := gb174) (o := .cells #[.slice A1_0 l1_0.length c1_0] 29 (0, 0)) (kB BK174)) : gb174 ≠ gb187))
                 have NB187_174 := Aside0.mk ((by rw [hg]; exact Nat.ne_of_gt (blk_lt (g := gb174) (o := .cells #[.slice A1_0 l1_0.length c1_0] 29 (0, 0)) (kB BK174)) : gb187 ≠ gb174))
                 replace BK174 := Aside0.mk (blk_below (g := gb174) (o := .cells #[.slice A1_0 l1_0.length c1_0] 29 (0, 0)) (kB BK174) hb)
                 clear hb hbox hg
                 refine hK.out _ _ ⟨(blk_cell BK173.out 0).trans rfl, (blk_cell BK174.out 0).trans rfl⟩ (fun hHeld => ?_)
                 clear hK K
                 refine norm_ (a' := ?_) ?_ ?_
                 rotate_left
                 ·show Act.put _ (some 6) _ = _
                  simp only [Act.put, List.setIfInBounds_toArray, List.set_cons_zero, List.set_cons_succ, i64_w, i32_w]
                  rfl
                 refine one_ (i := 1) (N := some 29) #[true, true, true, false, false, false, false, false, true, false, false] rfl rfl (one_of HT_.out (by kernel_rfl)) (by decide) (fun K hK => ?_)
                 refine goes_ Try.func17 (by kernel_rfl) rfl #[.agg #[.slice A0_0 l0_0.length c0_0]] (by rfl) rfl rfl (by (try simp only [List.map_toArray, List.map_cons, List.map_nil]); first | done | rfl | (simp only [List.length_drop, List.length_take]; rfl)) ?_
                 with_reducible refine (laws_toFilter.calls k _ _ l0_0 t177 _ ?side1 ?side2 A19.out).mono ?_
                 (case side1 => repeat (first | exact (Kd.C_below HR0_0.out HB.out) | (with_reducible refine Kd.C_alloc ?_ _) | (with_reducible refine Kd.C_drewN ?_ _) | (with_reducible refine Kd.C_drew ?_)))
                 (case side2 => exact HC0_0.out)
                 rintro e w61 ⟨v178, rfl, ho0, hb⟩
                 refine ⟨_, rfl, ?_⟩
                 have HO179 := Aside0.mk (Kd.R_lower ho0 (below_size (bB HB)))
                 replace BK173 := Aside0.mk (blk_below (g := gb173) (o := .cells #[.slice A0_0 l0_0.length c0_0] 29 (0, 0)) (kB BK173) hb)
                 replace BK174 := Aside0.mk (blk_below (g := gb174) (o := .cells #[.slice A1_0 l1_0.length c1_0] 29 (0, 0)) (kB BK174) hb)
                 replace BK187 := Aside0.mk (blk_below (g := gb187) (o := .cells #[.slice none 0 0] 32 (0, 0)) (kB BK187) hb)
                 replace HB := Aside0.mk (below_step (bB HB) hb)
                 (try clear hb);(try clear hb2);(try clear hk);(try clear hi);(try clear ho0)
                 refine hK.out _ _ ⟨(blk_cell BK173.out 0).trans rfl, (blk_cell BK174.out 0).trans rfl⟩ (fun hHeld => ?_)
                 clear hK K
                 refine norm_ (a' := ?_) ?_ ?_
                 rotate_left
                 ·show Act.put _ (some 29) _ = _
                  simp only [Act.put, List.setIfInBounds_toArray, List.set_cons_zero, List.set_cons_succ, i64_w, i32_w]
                  rfl
                 refine one_ (i := 3) (N := some 31) #[true, true, true, true, false, false, false, false, true, false, false] rfl rfl (one_of HT_.out (by kernel_rfl)) (by decide) (fun K hK => ?_)
                 refine goes_ Try.func17 (by kernel_rfl) rfl #[.agg #[.slice A1_0 l1_0.length c1_0]] (by rfl) rfl rfl (by (try simp only [List.map_toArray, List.map_cons, List.map_nil]); first | done | rfl | (simp only [List.length_drop, List.length_take]; rfl)) ?_
                 with_reducible refine (laws_toFilter.calls k _ _ l1_0 t180 _ ?side1 ?side2 A20.out).mono ?_
                 (case side1 => repeat (first | exact (Kd.C_below HR1_0.out HB.out) | (with_reducible refine Kd.C_alloc ?_ _) | (with_reducible refine Kd.C_drewN ?_ _) | (with_reducible refine Kd.C_drew ?_)))
                 (case side2 => exact HC1_0.out)
                 rintro e w62 ⟨v181, rfl, ho0, hb⟩
                 refine ⟨_, rfl, ?_⟩
                 have HO182 := Aside0.mk (Kd.R_lower (Kd.R_new' ho0 (Kd.R_lt (aR HO179))) (below_size (bB HB)))
                 replace HO179 := Aside0.mk (Kd.R_elder' (aR HO179) (Kd.R_base ho0) hb)
                 replace BK173 := Aside0.mk (blk_below (g := gb173) (o := .cells #[.slice A0_0 l0_0.length c0_0] 29 (0, 0)) (kB BK173) hb)
                 replace BK174 := Aside0.mk (blk_below (g := gb174) (o := .cells #[.slice A1_0 l1_0.length c1_0] 29 (0, 0)) (kB BK174) hb)
                 replace BK187 := Aside0.mk (blk_below (g := gb187) (o := .cells #[.slice none 0 0] 32 (0, 0)) (kB BK187) hb)
                 replace HB := Aside0.mk (below_step (bB HB) hb)
                 (try clear hb);(try clear hb2);(try clear hk);(try clear hi);(try clear ho0)
                 obtain ⟨Ao63, co63, eo63⟩ := Kd.R_slice HO179.out
                 (first | subst eo63 | (injection eo63 with f1_ f2_ f3_; have f4_ := f1_.symm; have f5_ := f3_.symm; clear f1_ f2_ f3_; subst f4_; subst f5_))
                 obtain ⟨Ao64, co64, eo64⟩ := Kd.R_slice HO182.out
                 (first | subst eo64 | (injection eo64 with f1_ f2_ f3_; have f4_ := f1_.symm; have f5_ := f3_.symm; clear f1_ f2_ f3_; subst f4_; subst f5_))
                 refine hK.out _ _ ⟨(blk_cell BK173.out 0).trans rfl, (blk_cell BK174.out 0).trans rfl⟩ (fun hHeld => ?_)
                 clear hK K
                 refine norm_ (a' := ?_) ?_ ?_
                 rotate_left
                 ·show Act.put _ (some 31) _ = _
                  simp only [Act.put, List.setIfInBounds_toArray, List.set_cons_zero, List.set_cons_succ, i64_w, i32_w]
                  rfl
                 refine one_ (i := 4) (N := some 32) #[true, true, true, true, true, false, false, false, true, false, false] rfl rfl (one_of HT_.out (by kernel_rfl)) (by decide) (fun K hK => ?_)
                 refine goes_ Try.func24 (by kernel_rfl) rfl #[.agg #[.slice Ao63 t177.length co63], .agg #[.slice Ao64 t180.length co64]] (by rfl) rfl rfl (by (try simp only [List.map_toArray, List.map_cons, List.map_nil]); first | done | rfl | (simp only [List.length_drop, List.length_take]; rfl)) ?_
                 with_reducible refine (spec_MeetFilters.calls k _ _ t177 _ _ t180 t183 t186 _ ?side1 ?side2 ?side3 ?side4 A21.out).mono ?_
                 (case side1 => repeat (first | exact (Kd.R_reads' HO179.out).2.2 | (with_reducible refine Kd.C_alloc ?_ _) | (with_reducible refine Kd.C_drewN ?_ _) | (with_reducible refine Kd.C_drew ?_)))
                 (case side2 => exact (Kd.R_reads' HO179.out).2.1)
                 (case side3 => repeat (first | exact (Kd.R_reads' HO182.out).2.2 | (with_reducible refine Kd.C_alloc ?_ _) | (with_reducible refine Kd.C_drewN ?_ _) | (with_reducible refine Kd.C_drew ?_)))
                 (case side4 => exact (Kd.R_reads' HO182.out).2.1)
                 rintro e w65 ⟨v184, rfl, ho0, hb⟩
                 refine ⟨_, rfl, ?_⟩
                 have HO185 := Aside0.mk (Kd.R_lower (Kd.R_new' (Kd.R_new' ho0 (Kd.R_lt (aR HO179))) (Kd.R_lt (aR HO182))) (below_size (bB HB)))
                 replace HO179 := Aside0.mk (Kd.R_elder' (aR HO179) (Kd.R_base ho0) hb)
                 replace HO182 := Aside0.mk (Kd.R_elder' (aR HO182) (Kd.R_base ho0) hb)
                 replace BK173 := Aside0.mk (blk_below (g := gb173) (o := .cells #[.slice A0_0 l0_0.length c0_0] 29 (0, 0)) (kB BK173) hb)
                 replace BK174 := Aside0.mk (blk_below (g := gb174) (o := .cells #[.slice A1_0 l1_0.length c1_0] 29 (0, 0)) (kB BK174) hb)
                 replace BK187 := Aside0.mk (blk_below (g := gb187) (o := .cells #[.slice none 0 0] 32 (0, 0)) (kB BK187) hb)
                 replace HB := Aside0.mk (below_step (bB HB) hb)
                 (try clear hb);(try clear hb2);(try clear hk);(try clear hi);(try clear ho0)
                 refine hK.out _ _ ⟨(blk_cell BK173.out 0).trans rfl, (blk_cell BK174.out 0).trans rfl⟩ (fun hHeld => ?_)
                 clear hK K
                 refine norm_ (a' := ?_) ?_ ?_
                 rotate_left
                 ·show Act.put _ (some 32) _ = _
                  simp only [Act.put, List.setIfInBounds_toArray, List.set_cons_zero, List.set_cons_succ, i64_w, i32_w]
                  rfl
                 refine pure_ (i := 5) (N := some 27) (v := ?_) (a' := ?_) #[true, true, true, true, true, true, false, false, true, false, false] rfl rfl (any_of HT_.out (by kernel_rfl)) (fun _ _ _ h => h) (Or.inl ⟨by rfl, ?_⟩) ?_ ?_
                 rotate_left
                 ·intro w'
                  go_simp
                  with_reducible rfl
                 rotate_left
                 ·simp only [Act.put, List.setIfInBounds_toArray, List.set_cons_zero, List.set_cons_succ, i64_w, i32_w]
                  rfl
                 refine pure_ (i := 6) (N := some 33) (v := ?_) (a' := ?_) #[true, true, true, true, true, true, true, false, true, false, false] rfl rfl (any_of HT_.out (by kernel_rfl)) (fun _ _ _ h => h) (Or.inl ⟨by rfl, ?_⟩) ?_ ?_
                 rotate_left
                 ·intro w'
                  go_simp
                  with_reducible rfl
                 rotate_left
                 ·simp only [Act.put, List.setIfInBounds_toArray, List.set_cons_zero, List.set_cons_succ, i64_w, i32_w]
                  rfl
                 refine pure_ (i := 7) (N := some 34) (v := ?_) (a' := ?_) #[true, true, true, true, true, true, true, true, true, false, false] rfl rfl (any_of HT_.out (by kernel_rfl)) (fun _ _ _ h => h) (Or.inl ⟨by rfl, ?_⟩) ?_ ?_
                 rotate_left
                 ·intro w'
                  go_simp
                  with_reducible rfl
                 rotate_left
                 ·simp only [Act.put, List.setIfInBounds_toArray, List.set_cons_zero, List.set_cons_succ, i64_w, i32_w]
                  rfl
                 exact norm_ (by simp only [putAll, Act.put, List.setIfInBounds_toArray, List.set_cons_zero, List.set_cons_succ]) (hCont (.slice Ao63 t177.length co63, .slice Ao64 t180.length co64, v184, gb187) _ ⟨hHeld, (by (with_reducible repeat (first | apply Kd.R_alloc | apply Kd.R_drewN | apply Kd.R_drew)); exact Kd.R_mono HO179.out (fun _ hk => ⟨hk.1.2, hk.2⟩)), (by (with_reducible repeat (first | apply Kd.R_alloc | apply Kd.R_drewN | apply Kd.R_drew)); exact Kd.R_mono HO182.out (fun _ hk => ⟨hk.1.2, hk.2⟩)), (by (with_reducible repeat (first | apply Kd.R_alloc | apply Kd.R_drewN | apply Kd.R_drew)); exact Kd.R_mono HO185.out (fun _ hk => ⟨hk.1.2, hk.2⟩)), (kB BK173), (kB BK174), (kB BK187), GW187.out, GE187.out, NB173_187.out, NB187_173.out, NB174_187.out, NB187_174.out, (bB HB)⟩)
               rintro ⟨v178, v181, v184, gb187⟩ w66 ⟨hS_, h0_, h1_, h2_, h3_, h4_, h5_, h6_, h7_, h8_, h9_, h10_, h11_, h12_⟩
               have n0_ : Aside0 (Kd.R Kd.bool 4 w66 w.heap.size (fun k_ => some k_ ≠ (v181 : Value).ownBlock ∧ some k_ ≠ (v184 : Value).ownBlock) v178 t177) := ⟨h0_⟩
               have n1_ : Aside0 (Kd.R Kd.bool 4 w66 w.heap.size (fun k_ => some k_ ≠ (v178 : Value).ownBlock ∧ some k_ ≠ (v184 : Value).ownBlock) v181 t180) := ⟨h1_⟩
               have n2_ : Aside0 (Kd.R Kd.bool 4 w66 w.heap.size (fun k_ => some k_ ≠ (v178 : Value).ownBlock ∧ some k_ ≠ (v181 : Value).ownBlock) v184 t183) := ⟨h2_⟩
               have n3_ : Aside0 (w66.heap[gb173]? = some (.cells #[.slice A0_0 l0_0.length c0_0] 29 (0, 0))) := ⟨h3_⟩
               have n4_ : Aside0 (w66.heap[gb174]? = some (.cells #[.slice A1_0 l1_0.length c1_0] 29 (0, 0))) := ⟨h4_⟩
               have n5_ : Aside0 (w66.heap[gb187]? = some (.cells #[.slice none 0 0] 32 (0, 0))) := ⟨h5_⟩
               have n6_ : Aside0 (w.heap.size ≤ gb187) := ⟨h6_⟩
               have n7_ : Aside0 (w.heap.size ≤ gb187) := ⟨h7_⟩
               have n8_ : Aside0 (gb173 ≠ gb187) := ⟨h8_⟩
               have n9_ : Aside0 (gb187 ≠ gb173) := ⟨h9_⟩
               have n10_ : Aside0 (gb174 ≠ gb187) := ⟨h10_⟩
               have n11_ : Aside0 (gb187 ≠ gb174) := ⟨h11_⟩
               have n12_ : Aside0 (Below w.heap.size w w66) := ⟨h12_⟩
               clear BK173
               clear BK174
               clear HB
               clear h0_ h1_ h2_ h3_ h4_ h5_ h6_ h7_ h8_ h9_ h10_ h11_ h12_
               have HO179 := n0_
               have HO182 := n1_
               have HO185 := n2_
               have BK173 := n3_
               have BK174 := n4_
               have BK187 := n5_
               have GW187 := n6_
               have GE187 := n7_
               have NB173_187 := n8_
               have NB187_173 := n9_
               have NB174_187 := n10_
               have NB187_174 := n11_
               have HB := n12_
               clear n0_ n1_ n2_ n3_ n4_ n5_ n6_ n7_ n8_ n9_ n10_ n11_ n12_
               have hHeld : w66.cell? ⟨gb173, 0, none⟩ = some (.slice A0_0 l0_0.length c0_0) ∧ w66.cell? ⟨gb174, 0, none⟩ = some (.slice A1_0 l1_0.length c1_0) := hS_
               obtain ⟨Ao67, co67, eo67⟩ := Kd.R_slice HO185.out
               (first | subst eo67 | (injection eo67 with f1_ f2_ f3_; have f4_ := f1_.symm; have f5_ := f3_.symm; clear f1_ f2_ f3_; subst f4_; subst f5_))
               refine norm_ (a' := ?_) ?_ ?_
               rotate_left
               ·simp only [putAll, Act.put, List.setIfInBounds_toArray, List.set_cons_zero, List.set_cons_succ]
                rfl
               refine one_ (i := 9) (N := none) #[true, true, true, true, true, true, true, true, true, true, false] rfl rfl (one_of HT_.out (by kernel_rfl)) (by decide) (fun K hK => ?_)
               have hs68 : w66.cell? ⟨gb187, 0, none⟩ = some (.slice none 0 0) := (blk_cell BK187.out 0).trans rfl
               have hfs68 := blk_frozen BK187.out 0
               have hns68_0 := NB173_187.out
               have hns68_1 := NB174_187.out
               have hms68_0 := NB187_173.out
               have hms68_1 := NB187_174.out
               refine skip_ (w1 := ?_) (by rfl) rfl ?_ ?_
               rotate_left
               ·go_simp
                rfl
               refine hK.out _ _ ⟨((cell_far (p := ⟨gb187, _, none⟩) NB173_187.out _).trans (hHeld.1)), ((cell_far (p := ⟨gb187, _, none⟩) NB174_187.out _).trans (hHeld.2))⟩ (fun hHeld => ?_)
               clear hK K
               refine pure_ (i := 10) (N := some 7) (v := ?_) (a' := ?_) #[true, true, true, true, true, true, true, true, true, true, true] rfl rfl (any_of HT_.out (by kernel_rfl)) (fun _ _ _ h => h) (Or.inl ⟨by rfl, ?_⟩) ?_ ?_
               rotate_left
               ·intro w'
                go_simp
                with_reducible rfl
               rotate_left
               ·simp only [Act.put, List.setIfInBounds_toArray, List.set_cons_zero, List.set_cons_succ, i64_w, i32_w]
                rfl
               refine done_ (done_of HT_.out (by kernel_rfl)) ?_
               have hnb69 := NB173_187.out
               have hnc69 := NB187_173.out
               have hcz70_0 : w66.cell? ⟨gb173, 0, none⟩ = some (.slice A0_0 l0_0.length c0_0) := (blk_cell BK173.out 0).trans rfl
               have hfz70_0 := blk_frozen BK173.out 0
               try go_wp2_with (first | ((with_reducible refine gate_callee (f := 17) rfl ?_); refine goesL_ (some 36) rfl rfl Try.func17 (by kernel_rfl) rfl #[.agg #[.slice A0_0 l0_0.length c0_0]] rfl (by (try simp only [List.map_toArray, List.map_cons, List.map_nil]); first | done | rfl | (simp only [List.length_drop, List.length_take]; rfl)) ?_; (with_reducible refine (laws_toFilter.calls k _ _ l0_0 t188 _ ?side1 ?side2 A22.out).mono ?_); (case side1 => exact Kd.C_below HR0_0.out (bB HB)); (case side2 => exact HC0_0.out); rintro e w71 ⟨v189, rfl, ho0, hb⟩; refine ⟨_, rfl, ?_⟩; have HO190 := Aside0.mk (Kd.R_lower (Kd.R_new' (Kd.R_new' (Kd.R_new' ho0 (Kd.R_lt (by (with_reducible repeat (first | apply Kd.R_alloc | apply Kd.R_drewN | apply Kd.R_drew)); exact (Kd.R_mono (Kd.R_far (p := ⟨gb187, 0, none⟩) (Kd.R_types HO179.out BK187.out (by decide)) (fun _ hk => hk.2) (.slice Ao67 t183.length co67)) (fun _ h_ => h_.1))))) (Kd.R_lt (by (with_reducible repeat (first | apply Kd.R_alloc | apply Kd.R_drewN | apply Kd.R_drew)); exact (Kd.R_mono (Kd.R_far (p := ⟨gb187, 0, none⟩) (Kd.R_types HO182.out BK187.out (by decide)) (fun _ hk => hk.2) (.slice Ao67 t183.length co67)) (fun _ h_ => h_.1))))) (Kd.R_lt (by (with_reducible repeat (first | apply Kd.R_alloc | apply Kd.R_drewN | apply Kd.R_drew)); exact (Kd.R_mono (Kd.R_far (p := ⟨gb187, 0, none⟩) (Kd.R_types HO185.out BK187.out (by decide)) (fun _ hk => hk.2) (.slice Ao67 t183.length co67)) (fun _ h_ => h_.1))))) (below_size (bB HB))); replace HO179 := Aside0.mk (Kd.R_elder' (by (with_reducible repeat (first | apply Kd.R_alloc | apply Kd.R_drewN | apply Kd.R_drew)); exact (Kd.R_mono (Kd.R_far (p := ⟨gb187, 0, none⟩) (Kd.R_types HO179.out BK187.out (by decide)) (fun _ hk => hk.2) (.slice Ao67 t183.length co67)) (fun _ h_ => h_.1))) (Kd.R_base ho0) hb); replace HO182 := Aside0.mk (Kd.R_elder' (by (with_reducible repeat (first | apply Kd.R_alloc | apply Kd.R_drewN | apply Kd.R_drew)); exact (Kd.R_mono (Kd.R_far (p := ⟨gb187, 0, none⟩) (Kd.R_types HO182.out BK187.out (by decide)) (fun _ hk => hk.2) (.slice Ao67 t183.length co67)) (fun _ h_ => h_.1))) (Kd.R_base ho0) hb); replace HO185 := Aside0.mk (Kd.R_elder' (by (with_reducible repeat (first | apply Kd.R_alloc | apply Kd.R_drewN | apply Kd.R_drew)); exact (Kd.R_mono (Kd.R_far (p := ⟨gb187, 0, none⟩) (Kd.R_types HO185.out BK187.out (by decide)) (fun _ hk => hk.2) (.slice Ao67 t183.length co67)) (fun _ h_ => h_.1))) (Kd.R_base ho0) hb); replace BK173 := Aside0.mk (blk_below (g := gb173) (o := .cells #[.slice A0_0 l0_0.length c0_0] 29 (0, 0)) (by (with_reducible repeat (first | refine blk_drewN ?_ _ | refine blk_drew ?_ | refine blk_alloc ?_ _)); refine blk_far ?_ NB173_187.out _; (with_reducible repeat (first | refine blk_drewN ?_ _ | refine blk_drew ?_ | refine blk_alloc ?_ _)); exact BK173.out) hb); replace BK174 := Aside0.mk (blk_below (g := gb174) (o := .cells #[.slice A1_0 l1_0.length c1_0] 29 (0, 0)) (by (with_reducible repeat (first | refine blk_drewN ?_ _ | refine blk_drew ?_ | refine blk_alloc ?_ _)); refine blk_far ?_ NB174_187.out _; (with_reducible repeat (first | refine blk_drewN ?_ _ | refine blk_drew ?_ | refine blk_alloc ?_ _)); exact BK174.out) hb); replace BK187 := Aside0.mk (blk_below (g := gb187) (o := .cells #[.slice Ao67 t183.length co67] 32 (0, 0)) (by (with_reducible repeat (first | refine blk_drewN ?_ _ | refine blk_drew ?_ | refine blk_alloc ?_ _)); refine blk_put (cs := #[.slice none 0 0]) ?_ 0 _ rfl; (with_reducible repeat (first | refine blk_drewN ?_ _ | refine blk_drew ?_ | refine blk_alloc ?_ _)); exact BK187.out) hb); replace HB := Aside0.mk (below_step (bB HB) hb); (try clear hb); (try clear hb2); (try clear hk); (try clear hi); (try clear ho0)) | ((with_reducible refine gate_dst (N := 8) rfl ?_); refine box_event ?hg (N := 8) ?hd (cs := #[.slice none 0 0]) (t := 32) ?hr ?_; (case hd => rfl); (case hg => rfl); (case hr => first | (go_simp; done) | (go_simp; rfl)); intro gb191 hg w72 hbox hb; replace HO179 := Aside0.mk (Kd.R_below (aR HO179) hb); replace HO182 := Aside0.mk (Kd.R_below (aR HO182) hb); replace HO185 := Aside0.mk (Kd.R_below (aR HO185) hb); replace HO190 := Aside0.mk (Kd.R_below (aR HO190) hb); have BK191 := Aside0.mk (hbox); have GW191 := Aside0.mk ((by rw [hg]; exact (below_size (bB HB)) : w.heap.size ≤ gb191)); have GE191 := Aside0.mk ((by rw [hg]; exact (below_size (bB HB)) : w.heap.size ≤ gb191)); replace HB := Aside0.mk (below_step (bB HB) hb); have NB173_191 := Aside0.mk ((by rw [hg]; exact Nat.ne_of_lt (blk_lt (g := gb173) (o := .cells #[.slice A0_0 l0_0.length c0_0] 29 (0, 0)) (kB BK173)) : gb173 ≠ gb191)); have NB191_173 := Aside0.mk ((by rw [hg]; exact Nat.ne_of_gt (blk_lt (g := gb173) (o := .cells #[.slice A0_0 l0_0.length c0_0] 29 (0, 0)) (kB BK173)) : gb191 ≠ gb173)); replace BK173 := Aside0.mk (blk_below (g := gb173) (o := .cells #[.slice A0_0 l0_0.length c0_0] 29 (0, 0)) (kB BK173) hb); have NB174_191 := Aside0.mk ((by rw [hg]; exact Nat.ne_of_lt (blk_lt (g := gb174) (o := .cells #[.slice A1_0 l1_0.length c1_0] 29 (0, 0)) (kB BK174)) : gb174 ≠ gb191)); have NB191_174 := Aside0.mk ((by rw [hg]; exact Nat.ne_of_gt (blk_lt (g := gb174) (o := .cells #[.slice A1_0 l1_0.length c1_0] 29 (0, 0)) (kB BK174)) : gb191 ≠ gb174)); replace BK174 := Aside0.mk (blk_below (g := gb174) (o := .cells #[.slice A1_0 l1_0.length c1_0] 29 (0, 0)) (kB BK174) hb); have NB187_191 := Aside0.mk ((by rw [hg]; exact Nat.ne_of_lt (blk_lt (g := gb187) (o := .cells #[.slice Ao67 t183.length co67] 32 (0, 0)) (kB BK187)) : gb187 ≠ gb191)); have NB191_187 := Aside0.mk ((by rw [hg]; exact Nat.ne_of_gt (blk_lt (g := gb187) (o := .cells #[.slice Ao67 t183.length co67] 32 (0, 0)) (kB BK187)) : gb191 ≠ gb187)); replace BK187 := Aside0.mk (blk_below (g := gb187) (o := .cells #[.slice Ao67 t183.length co67] 32 (0, 0)) (kB BK187) hb); clear hb hbox hg; obtain ⟨Ao73, co73, eo73⟩ := Kd.R_slice HO190.out; subst eo73; have hnb74 := NB191_173.out; have hnc74 := NB173_191.out; have hnb75 := NB191_174.out; have hnc75 := NB174_191.out; have hnb76 := NB191_187.out; have hnc76 := NB187_191.out; have hcz77_0 : w72.cell? ⟨gb191, 0, none⟩ = some (.slice none 0 0) := (blk_cell BK191.out 0).trans rfl; have hfz77_0 := blk_frozen BK191.out 0; have hnb78 := NB174_187.out; have hnc78 := NB187_174.out; have hcz79_0 : w72.cell? ⟨gb174, 0, none⟩ = some (.slice A1_0 l1_0.length c1_0) := (blk_cell BK174.out 0).trans rfl; have hfz79_0 := blk_frozen BK174.out 0) | ((with_reducible refine gate_callee (f := 17) rfl ?_); refine goesL_ (some 38) rfl rfl Try.func17 (by kernel_rfl) rfl #[.agg #[.slice A1_0 l1_0.length c1_0]] rfl (by (try simp only [List.map_toArray, List.map_cons, List.map_nil]); first | done | rfl | (simp only [List.length_drop, List.length_take]; rfl)) ?_; (with_reducible refine (laws_toFilter.calls k _ _ l1_0 t192 _ ?side1 ?side2 A23.out).mono ?_); (case side1 => exact Kd.C_below HR1_0.out (bB HB)); (case side2 => exact HC1_0.out); rintro e w80 ⟨v193, rfl, ho0, hb⟩; refine ⟨_, rfl, ?_⟩; have HO194 := Aside0.mk (Kd.R_lower (Kd.R_new' (Kd.R_new' (Kd.R_new' (Kd.R_new' ho0 (Kd.R_lt (by (with_reducible repeat (first | apply Kd.R_alloc | apply Kd.R_drewN | apply Kd.R_drew)); exact (Kd.R_mono (Kd.R_far (p := ⟨gb191, 0, none⟩) (Kd.R_types HO179.out BK191.out (by decide)) (fun _ hk => hk.2) (.slice Ao73 t188.length co73)) (fun _ h_ => h_.1))))) (Kd.R_lt (by (with_reducible repeat (first | apply Kd.R_alloc | apply Kd.R_drewN | apply Kd.R_drew)); exact (Kd.R_mono (Kd.R_far (p := ⟨gb191, 0, none⟩) (Kd.R_types HO182.out BK191.out (by decide)) (fun _ hk => hk.2) (.slice Ao73 t188.length co73)) (fun _ h_ => h_.1))))) (Kd.R_lt (by (with_reducible repeat (first | apply Kd.R_alloc | apply Kd.R_drewN | apply Kd.R_drew)); exact (Kd.R_mono (Kd.R_far (p := ⟨gb191, 0, none⟩) (Kd.R_types HO185.out BK191.out (by decide)) (fun _ hk => hk.2) (.slice Ao73 t188.length co73)) (fun _ h_ => h_.1))))) (Kd.R_lt (by (with_reducible repeat (first | apply Kd.R_alloc | apply Kd.R_drewN | apply Kd.R_drew)); exact (Kd.R_mono (Kd.R_far (p := ⟨gb191, 0, none⟩) (Kd.R_types HO190.out BK191.out (by decide)) (fun _ hk => hk.2) (.slice Ao73 t188.length co73)) (fun _ h_ => h_.1))))) (below_size (bB HB))); replace HO179 := Aside0.mk (Kd.R_elder' (by (with_reducible repeat (first | apply Kd.R_alloc | apply Kd.R_drewN | apply Kd.R_drew)); exact (Kd.R_mono (Kd.R_far (p := ⟨gb191, 0, none⟩) (Kd.R_types HO179.out BK191.out (by decide)) (fun _ hk => hk.2) (.slice Ao73 t188.length co73)) (fun _ h_ => h_.1))) (Kd.R_base ho0) hb); replace HO182 := Aside0.mk (Kd.R_elder' (by (with_reducible repeat (first | apply Kd.R_alloc | apply Kd.R_drewN | apply Kd.R_drew)); exact (Kd.R_mono (Kd.R_far (p := ⟨gb191, 0, none⟩) (Kd.R_types HO182.out BK191.out (by decide)) (fun _ hk => hk.2) (.slice Ao73 t188.length co73)) (fun _ h_ => h_.1))) (Kd.R_base ho0) hb); replace HO185 := Aside0.mk (Kd.R_elder' (by (with_reducible repeat (first | apply Kd.R_alloc | apply Kd.R_drewN | apply Kd.R_drew)); exact (Kd.R_mono (Kd.R_far (p := ⟨gb191, 0, none⟩) (Kd.R_types HO185.out BK191.out (by decide)) (fun _ hk => hk.2) (.slice Ao73 t188.length co73)) (fun _ h_ => h_.1))) (Kd.R_base ho0) hb); replace HO190 := Aside0.mk (Kd.R_elder' (by (with_reducible repeat (first | apply Kd.R_alloc | apply Kd.R_drewN | apply Kd.R_drew)); exact (Kd.R_mono (Kd.R_far (p := ⟨gb191, 0, none⟩) (Kd.R_types HO190.out BK191.out (by decide)) (fun _ hk => hk.2) (.slice Ao73 t188.length co73)) (fun _ h_ => h_.1))) (Kd.R_base ho0) hb); replace BK173 := Aside0.mk (blk_below (g := gb173) (o := .cells #[.slice A0_0 l0_0.length c0_0] 29 (0, 0)) (by (with_reducible repeat (first | refine blk_drewN ?_ _ | refine blk_drew ?_ | refine blk_alloc ?_ _)); refine blk_far ?_ NB173_191.out _; (with_reducible repeat (first | refine blk_drewN ?_ _ | refine blk_drew ?_ | refine blk_alloc ?_ _)); exact BK173.out) hb); replace BK174 := Aside0.mk (blk_below (g := gb174) (o := .cells #[.slice A1_0 l1_0.length c1_0] 29 (0, 0)) (by (with_reducible repeat (first | refine blk_drewN ?_ _ | refine blk_drew ?_ | refine blk_alloc ?_ _)); refine blk_far ?_ NB174_191.out _; (with_reducible repeat (first | refine blk_drewN ?_ _ | refine blk_drew ?_ | refine blk_alloc ?_ _)); exact BK174.out) hb); replace BK187 := Aside0.mk (blk_below (g := gb187) (o := .cells #[.slice Ao67 t183.length co67] 32 (0, 0)) (by (with_reducible repeat (first | refine blk_drewN ?_ _ | refine blk_drew ?_ | refine blk_alloc ?_ _)); refine blk_far ?_ NB187_191.out _; (with_reducible repeat (first | refine blk_drewN ?_ _ | refine blk_drew ?_ | refine blk_alloc ?_ _)); exact BK187.out) hb); replace BK191 := Aside0.mk (blk_below (g := gb191) (o := .cells #[.slice Ao73 t188.length co73] 32 (0, 0)) (by (with_reducible repeat (first | refine blk_drewN ?_ _ | refine blk_drew ?_ | refine blk_alloc ?_ _)); refine blk_put (cs := #[.slice none 0 0]) ?_ 0 _ rfl; (with_reducible repeat (first | refine blk_drewN ?_ _ | refine blk_drew ?_ | refine blk_alloc ?_ _)); exact BK191.out) hb); replace HB := Aside0.mk (below_step (bB HB) hb); (try clear hb); (try clear hb2); (try clear hk); (try clear hi); (try clear ho0)) | ((with_reducible refine gate_dst (N := 9) rfl ?_); refine box_event ?hg (N := 9) ?hd (cs := #[.slice none 0 0]) (t := 32) ?hr ?_; (case hd => rfl); (case hg => rfl); (case hr => first | (go_simp; done) | (go_simp; rfl)); intro gb195 hg w81 hbox hb; replace HO179 := Aside0.mk (Kd.R_below (aR HO179) hb); replace HO182 := Aside0.mk (Kd.R_below (aR HO182) hb); replace HO185 := Aside0.mk (Kd.R_below (aR HO185) hb); replace HO190 := Aside0.mk (Kd.R_below (aR HO190) hb); replace HO194 := Aside0.mk (Kd.R_below (aR HO194) hb); have BK195 := Aside0.mk (hbox); have GW195 := Aside0.mk ((by rw [hg]; exact (below_size (bB HB)) : w.heap.size ≤ gb195)); have GE195 := Aside0.mk ((by rw [hg]; exact (below_size (bB HB)) : w.heap.size ≤ gb195)); replace HB := Aside0.mk (below_step (bB HB) hb); have NB173_195 := Aside0.mk ((by rw [hg]; exact Nat.ne_of_lt (blk_lt (g := gb173) (o := .cells #[.slice A0_0 l0_0.length c0_0] 29 (0, 0)) (kB BK173)) : gb173 ≠ gb195)); have NB195_173 := Aside0.mk ((by rw [hg]; exact Nat.ne_of_gt (blk_lt (g := gb173) (o := .cells #[.slice A0_0 l0_0.length c0_0] 29 (0, 0)) (kB BK173)) : gb195 ≠ gb173)); replace BK173 := Aside0.mk (blk_below (g := gb173) (o := .cells #[.slice A0_0 l0_0.length c0_0] 29 (0, 0)) (kB BK173) hb); have NB174_195 := Aside0.mk ((by rw [hg]; exact Nat.ne_of_lt (blk_lt (g := gb174) (o := .cells #[.slice A1_0 l1_0.length c1_0] 29 (0, 0)) (kB BK174)) : gb174 ≠ gb195)); have NB195_174 := Aside0.mk ((by rw [hg]; exact Nat.ne_of_gt (blk_lt (g := gb174) (o := .cells #[.slice A1_0 l1_0.length c1_0] 29 (0, 0)) (kB BK174)) : gb195 ≠ gb174)); replace BK174 := Aside0.mk (blk_below (g := gb174) (o := .cells #[.slice A1_0 l1_0.length c1_0] 29 (0, 0)) (kB BK174) hb); have NB187_195 := Aside0.mk ((by rw [hg]; exact Nat.ne_of_lt (blk_lt (g := gb187) (o := .cells #[.slice Ao67 t183.length co67] 32 (0, 0)) (kB BK187)) : gb187 ≠ gb195)); have NB195_187 := Aside0.mk ((by rw [hg]; exact Nat.ne_of_gt (blk_lt (g := gb187) (o := .cells #[.slice Ao67 t183.length co67] 32 (0, 0)) (kB BK187)) : gb195 ≠ gb187)); replace BK187 := Aside0.mk (blk_below (g := gb187) (o := .cells #[.slice Ao67 t183.length co67] 32 (0, 0)) (kB BK187) hb); have NB191_195 := Aside0.mk ((by rw [hg]; exact Nat.ne_of_lt (blk_lt (g := gb191) (o := .cells #[.slice Ao73 t188.length co73] 32 (0, 0)) (kB BK191)) : gb191 ≠ gb195)); have NB195_191 := Aside0.mk ((by rw [hg]; exact Nat.ne_of_gt (blk_lt (g := gb191) (o := .cells #[.slice Ao73 t188.length co73] 32 (0, 0)) (kB BK191)) : gb195 ≠ gb191)); replace BK191 := Aside0.mk (blk_below (g := gb191) (o := .cells #[.slice Ao73 t188.length co73] 32 (0, 0)) (kB BK191) hb); clear hb hbox hg; obtain ⟨Ao82, co82, eo82⟩ := Kd.R_slice HO194.out; subst eo82; have hnb83 := NB195_173.out; have hnc83 := NB173_195.out; have hnb84 := NB195_174.out; have hnc84 := NB174_195.out; have hnb85 := NB195_187.out; have hnc85 := NB187_195.out; have hnb86 := NB195_191.out; have hnc86 := NB191_195.out; have hcz87_0 : w81.cell? ⟨gb195, 0, none⟩ = some (.slice none 0 0) := (blk_cell BK195.out 0).trans rfl; have hfz87_0 := blk_frozen BK195.out 0; have hcz88_0 : w81.cell? ⟨gb191, 0, none⟩ = some (.slice Ao73 t188.length co73) := (blk_cell BK191.out 0).trans rfl; have hfz88_0 := blk_frozen BK191.out 0) | ((with_reducible refine gate_callee (f := 25) rfl ?_); refine goesL_ (some 42) rfl rfl Try.func25 (by kernel_rfl) rfl #[.agg #[.slice Ao73 t188.length co73], .agg #[.slice Ao82 t192.length co82]] rfl (by (try simp only [List.map_toArray, List.map_cons, List.map_nil]); first | done | rfl | (simp only [List.length_drop, List.length_take]; rfl)) ?_; (with_reducible refine (impl_MeetFilters.calls k _ _ t188 _ _ t192 t196 t199 _ ?side1 ?side2 ?side3 ?side4 A24.out).mono ?_); (case side1 => refine (Kd.R_reads' (e := 4) (base := w.heap.size) (ok := fun k_ => ((((True ∧ some k_ ≠ (v178 : Value).ownBlock) ∧ some k_ ≠ (v181 : Value).ownBlock) ∧ some k_ ≠ (.slice Ao67 t183.length co67 : Value).ownBlock) ∧ some k_ ≠ (.slice Ao82 t192.length co82 : Value).ownBlock)) (n := t188.length) (c := co73) ?_).2.2; exact (by (with_reducible repeat (first | apply Kd.R_alloc | apply Kd.R_drewN | apply Kd.R_drew)); exact (Kd.R_mono (Kd.R_far (p := ⟨gb195, 0, none⟩) (Kd.R_types HO190.out BK195.out (by decide)) (fun _ hk => hk.2) (.slice Ao82 t192.length co82)) (fun _ h_ => h_.1)))); (case side2 => exact (Kd.R_reads' HO190.out).2.1); (case side3 => refine (Kd.R_reads' (e := 4) (base := w.heap.size) (ok := fun k_ => ((((True ∧ some k_ ≠ (v178 : Value).ownBlock) ∧ some k_ ≠ (v181 : Value).ownBlock) ∧ some k_ ≠ (.slice Ao67 t183.length co67 : Value).ownBlock) ∧ some k_ ≠ (.slice Ao73 t188.length co73 : Value).ownBlock)) (n := t192.length) (c := co82) ?_).2.2; exact (by (with_reducible repeat (first | apply Kd.R_alloc | apply Kd.R_drewN | apply Kd.R_drew)); exact (Kd.R_mono (Kd.R_far (p := ⟨gb195, 0, none⟩) (Kd.R_types HO194.out BK195.out (by decide)) (fun _ hk => hk.2) (.slice Ao82 t192.length co82)) (fun _ h_ => h_.1)))); (case side4 => exact (Kd.R_reads' HO194.out).2.1); rintro e w89 ⟨v197, rfl, ho0, hb⟩; refine ⟨_, rfl, ?_⟩; have HO198 := Aside0.mk (Kd.R_lower (Kd.R_new' (Kd.R_new' (Kd.R_new' (Kd.R_new' (Kd.R_new' ho0 (Kd.R_lt (by (with_reducible repeat (first | apply Kd.R_alloc | apply Kd.R_drewN | apply Kd.R_drew)); exact (Kd.R_mono (Kd.R_far (p := ⟨gb195, 0, none⟩) (Kd.R_types HO179.out BK195.out (by decide)) (fun _ hk => hk.2) (.slice Ao82 t192.length co82)) (fun _ h_ => h_.1))))) (Kd.R_lt (by (with_reducible repeat (first | apply Kd.R_alloc | apply Kd.R_drewN | apply Kd.R_drew)); exact (Kd.R_mono (Kd.R_far (p := ⟨gb195, 0, none⟩) (Kd.R_types HO182.out BK195.out (by decide)) (fun _ hk => hk.2) (.slice Ao82 t192.length co82)) (fun _ h_ => h_.1))))) (Kd.R_lt (by (with_reducible repeat (first | apply Kd.R_alloc | apply Kd.R_drewN | apply Kd.R_drew)); exact (Kd.R_mono (Kd.R_far (p := ⟨gb195, 0, none⟩) (Kd.R_types HO185.out BK195.out (by decide)) (fun _ hk => hk.2) (.slice Ao82 t192.length co82)) (fun _ h_ => h_.1))))) (Kd.R_lt (by (with_reducible repeat (first | apply Kd.R_alloc | apply Kd.R_drewN | apply Kd.R_drew)); exact (Kd.R_mono (Kd.R_far (p := ⟨gb195, 0, none⟩) (Kd.R_types HO190.out BK195.out (by decide)) (fun _ hk => hk.2) (.slice Ao82 t192.length co82)) (fun _ h_ => h_.1))))) (Kd.R_lt (by (with_reducible repeat (first | apply Kd.R_alloc | apply Kd.R_drewN | apply Kd.R_drew)); exact (Kd.R_mono (Kd.R_far (p := ⟨gb195, 0, none⟩) (Kd.R_types HO194.out BK195.out (by decide)) (fun _ hk => hk.2) (.slice Ao82 t192.length co82)) (fun _ h_ => h_.1))))) (below_size (bB HB))); replace HO179 := Aside0.mk (Kd.R_elder' (by (with_reducible repeat (first | apply Kd.R_alloc | apply Kd.R_drewN | apply Kd.R_drew)); exact (Kd.R_mono (Kd.R_far (p := ⟨gb195, 0, none⟩) (Kd.R_types HO179.out BK195.out (by decide)) (fun _ hk => hk.2) (.slice Ao82 t192.length co82)) (fun _ h_ => h_.1))) (Kd.R_base ho0) hb); replace HO182 := Aside0.mk (Kd.R_elder' (by (with_reducible repeat (first | apply Kd.R_alloc | apply Kd.R_drewN | apply Kd.R_drew)); exact (Kd.R_mono (Kd.R_far (p := ⟨gb195, 0, none⟩) (Kd.R_types HO182.out BK195.out (by decide)) (fun _ hk => hk.2) (.slice Ao82 t192.length co82)) (fun _ h_ => h_.1))) (Kd.R_base ho0) hb); replace HO185 := Aside0.mk (Kd.R_elder' (by (with_reducible repeat (first | apply Kd.R_alloc | apply Kd.R_drewN | apply Kd.R_drew)); exact (Kd.R_mono (Kd.R_far (p := ⟨gb195, 0, none⟩) (Kd.R_types HO185.out BK195.out (by decide)) (fun _ hk => hk.2) (.slice Ao82 t192.length co82)) (fun _ h_ => h_.1))) (Kd.R_base ho0) hb); replace HO190 := Aside0.mk (Kd.R_elder' (by (with_reducible repeat (first | apply Kd.R_alloc | apply Kd.R_drewN | apply Kd.R_drew)); exact (Kd.R_mono (Kd.R_far (p := ⟨gb195, 0, none⟩) (Kd.R_types HO190.out BK195.out (by decide)) (fun _ hk => hk.2) (.slice Ao82 t192.length co82)) (fun _ h_ => h_.1))) (Kd.R_base ho0) hb); replace HO194 := Aside0.mk (Kd.R_elder' (by (with_reducible repeat (first | apply Kd.R_alloc | apply Kd.R_drewN | apply Kd.R_drew)); exact (Kd.R_mono (Kd.R_far (p := ⟨gb195, 0, none⟩) (Kd.R_types HO194.out BK195.out (by decide)) (fun _ hk => hk.2) (.slice Ao82 t192.length co82)) (fun _ h_ => h_.1))) (Kd.R_base ho0) hb); replace BK173 := Aside0.mk (blk_below (g := gb173) (o := .cells #[.slice A0_0 l0_0.length c0_0] 29 (0, 0)) (by (with_reducible repeat (first | refine blk_drewN ?_ _ | refine blk_drew ?_ | refine blk_alloc ?_ _)); refine blk_far ?_ NB173_195.out _; (with_reducible repeat (first | refine blk_drewN ?_ _ | refine blk_drew ?_ | refine blk_alloc ?_ _)); exact BK173.out) hb); replace BK174 := Aside0.mk (blk_below (g := gb174) (o := .cells #[.slice A1_0 l1_0.length c1_0] 29 (0, 0)) (by (with_reducible repeat (first | refine blk_drewN ?_ _ | refine blk_drew ?_ | refine blk_alloc ?_ _)); refine blk_far ?_ NB174_195.out _; (with_reducible repeat (first | refine blk_drewN ?_ _ | refine blk_drew ?_ | refine blk_alloc ?_ _)); exact BK174.out) hb); replace BK187 := Aside0.mk (blk_below (g := gb187) (o := .cells #[.slice Ao67 t183.length co67] 32 (0, 0)) (by (with_reducible repeat (first | refine blk_drewN ?_ _ | refine blk_drew ?_ | refine blk_alloc ?_ _)); refine blk_far ?_ NB187_195.out _; (with_reducible repeat (first | refine blk_drewN ?_ _ | refine blk_drew ?_ | refine blk_alloc ?_ _)); exact BK187.out) hb); replace BK191 := Aside0.mk (blk_below (g := gb191) (o := .cells #[.slice Ao73 t188.length co73] 32 (0, 0)) (by (with_reducible repeat (first | refine blk_drewN ?_ _ | refine blk_drew ?_ | refine blk_alloc ?_ _)); refine blk_far ?_ NB191_195.out _; (with_reducible repeat (first | refine blk_drewN ?_ _ | refine blk_drew ?_ | refine blk_alloc ?_ _)); exact BK191.out) hb); replace BK195 := Aside0.mk (blk_below (g := gb195) (o := .cells #[.slice Ao82 t192.length co82] 32 (0, 0)) (by (with_reducible repeat (first | refine blk_drewN ?_ _ | refine blk_drew ?_ | refine blk_alloc ?_ _)); refine blk_put (cs := #[.slice none 0 0]) ?_ 0 _ rfl; (with_reducible repeat (first | refine blk_drewN ?_ _ | refine blk_drew ?_ | refine blk_alloc ?_ _)); exact BK195.out) hb); replace HB := Aside0.mk (below_step (bB HB) hb); (try clear hb); (try clear hb2); (try clear hk); (try clear hi); (try clear ho0)) | ((with_reducible refine gate_dst (N := 10) rfl ?_); refine box_event ?hg (N := 10) ?hd (cs := #[.slice none 0 0]) (t := 32) ?hr ?_; (case hd => rfl); (case hg => rfl); (case hr => first | (go_simp; done) | (go_simp; rfl)); intro gb200 hg w90 hbox hb; replace HO179 := Aside0.mk (Kd.R_below (aR HO179) hb); replace HO182 := Aside0.mk (Kd.R_below (aR HO182) hb); replace HO185 := Aside0.mk (Kd.R_below (aR HO185) hb); replace HO190 := Aside0.mk (Kd.R_below (aR HO190) hb); replace HO194 := Aside0.mk (Kd.R_below (aR HO194) hb); replace HO198 := Aside0.mk (Kd.R_below (aR HO198) hb); have BK200 := Aside0.mk (hbox); have GW200 := Aside0.mk ((by rw [hg]; exact (below_size (bB HB)) : w.heap.size ≤ gb200)); have GE200 := Aside0.mk ((by rw [hg]; exact (below_size (bB HB)) : w.heap.size ≤ gb200)); replace HB := Aside0.mk (below_step (bB HB) hb); have NB173_200 := Aside0.mk ((by rw [hg]; exact Nat.ne_of_lt (blk_lt (g := gb173) (o := .cells #[.slice A0_0 l0_0.length c0_0] 29 (0, 0)) (kB BK173)) : gb173 ≠ gb200)); have NB200_173 := Aside0.mk ((by rw [hg]; exact Nat.ne_of_gt (blk_lt (g := gb173) (o := .cells #[.slice A0_0 l0_0.length c0_0] 29 (0, 0)) (kB BK173)) : gb200 ≠ gb173)); replace BK173 := Aside0.mk (blk_below (g := gb173) (o := .cells #[.slice A0_0 l0_0.length c0_0] 29 (0, 0)) (kB BK173) hb); have NB174_200 := Aside0.mk ((by rw [hg]; exact Nat.ne_of_lt (blk_lt (g := gb174) (o := .cells #[.slice A1_0 l1_0.length c1_0] 29 (0, 0)) (kB BK174)) : gb174 ≠ gb200)); have NB200_174 := Aside0.mk ((by rw [hg]; exact Nat.ne_of_gt (blk_lt (g := gb174) (o := .cells #[.slice A1_0 l1_0.length c1_0] 29 (0, 0)) (kB BK174)) : gb200 ≠ gb174)); replace BK174 := Aside0.mk (blk_below (g := gb174) (o := .cells #[.slice A1_0 l1_0.length c1_0] 29 (0, 0)) (kB BK174) hb); have NB187_200 := Aside0.mk ((by rw [hg]; exact Nat.ne_of_lt (blk_lt (g := gb187) (o := .cells #[.slice Ao67 t183.length co67] 32 (0, 0)) (kB BK187)) : gb187 ≠ gb200)); have NB200_187 := Aside0.mk ((by rw [hg]; exact Nat.ne_of_gt (blk_lt (g := gb187) (o := .cells #[.slice Ao67 t183.length co67] 32 (0, 0)) (kB BK187)) : gb200 ≠ gb187)); replace BK187 := Aside0.mk (blk_below (g := gb187) (o := .cells #[.slice Ao67 t183.length co67] 32 (0, 0)) (kB BK187) hb); have NB191_200 := Aside0.mk ((by rw [hg]; exact Nat.ne_of_lt (blk_lt (g := gb191) (o := .cells #[.slice Ao73 t188.length co73] 32 (0, 0)) (kB BK191)) : gb191 ≠ gb200)); have NB200_191 := Aside0.mk ((by rw [hg]; exact Nat.ne_of_gt (blk_lt (g := gb191) (o := .cells #[.slice Ao73 t188.length co73] 32 (0, 0)) (kB BK191)) : gb200 ≠ gb191)); replace BK191 := Aside0.mk (blk_below (g := gb191) (o := .cells #[.slice Ao73 t188.length co73] 32 (0, 0)) (kB BK191) hb); have NB195_200 := Aside0.mk ((by rw [hg]; exact Nat.ne_of_lt (blk_lt (g := gb195) (o := .cells #[.slice Ao82 t192.length co82] 32 (0, 0)) (kB BK195)) : gb195 ≠ gb200)); have NB200_195 := Aside0.mk ((by rw [hg]; exact Nat.ne_of_gt (blk_lt (g := gb195) (o := .cells #[.slice Ao82 t192.length co82] 32 (0, 0)) (kB BK195)) : gb200 ≠ gb195)); replace BK195 := Aside0.mk (blk_below (g := gb195) (o := .cells #[.slice Ao82 t192.length co82] 32 (0, 0)) (kB BK195) hb); clear hb hbox hg; obtain ⟨Ao91, co91, eo91⟩ := Kd.R_slice HO198.out; subst eo91; have hnb92 := NB200_173.out; have hnc92 := NB173_200.out; have hnb93 := NB200_174.out; have hnc93 := NB174_200.out; have hnb94 := NB200_187.out; have hnc94 := NB187_200.out; have hnb95 := NB200_191.out; have hnc95 := NB191_200.out; have hnb96 := NB200_195.out; have hnc96 := NB195_200.out; have hcz97_0 : w90.cell? ⟨gb200, 0, none⟩ = some (.slice none 0 0) := (blk_cell BK200.out 0).trans rfl; have hfz97_0 := blk_frozen BK200.out 0; have hcz98_0 : w90.cell? ⟨gb187, 0, none⟩ = some (.slice Ao67 t183.length co67) := (blk_cell BK187.out 0).trans rfl; have hfz98_0 := blk_frozen BK187.out 0) | ((with_reducible refine gate_callee (f := 19) rfl ?_); refine goesL_ (some 47) rfl rfl Try.func19 (by kernel_rfl) rfl #[.agg #[.slice Ao91 t196.length co91], .agg #[.slice Ao67 t183.length co67]] rfl (by (try simp only [List.map_toArray, List.map_cons, List.map_nil]); first | done | rfl | (simp only [List.length_drop, List.length_take]; rfl)) ?_; (with_reducible refine (laws_eqFilter.calls k _ _ t196 _ _ t183 true _ ?side1 ?side2 ?side3 ?side4 A25.out).mono ?_); (case side1 => refine (Kd.R_reads' (e := 4) (base := w.heap.size) (ok := fun k_ => (((((True ∧ some k_ ≠ (v178 : Value).ownBlock) ∧ some k_ ≠ (v181 : Value).ownBlock) ∧ some k_ ≠ (.slice Ao67 t183.length co67 : Value).ownBlock) ∧ some k_ ≠ (.slice Ao73 t188.length co73 : Value).ownBlock) ∧ some k_ ≠ (.slice Ao82 t192.length co82 : Value).ownBlock)) (n := t196.length) (c := co91) ?_).2.2; exact (by (with_reducible repeat (first | apply Kd.R_alloc | apply Kd.R_drewN | apply Kd.R_drew)); exact (Kd.R_mono (Kd.R_far (p := ⟨gb200, 0, none⟩) (Kd.R_types HO198.out BK200.out (by decide)) (fun _ hk => hk.2) (.slice Ao91 t196.length co91)) (fun _ h_ => h_.1)))); (case side2 => exact (Kd.R_reads' HO198.out).2.1); (case side3 => refine (Kd.R_reads' (e := 4) (base := w.heap.size) (ok := fun k_ => ((((some k_ ≠ (v178 : Value).ownBlock ∧ some k_ ≠ (v181 : Value).ownBlock) ∧ some k_ ≠ (.slice Ao73 t188.length co73 : Value).ownBlock) ∧ some k_ ≠ (.slice Ao82 t192.length co82 : Value).ownBlock) ∧ some k_ ≠ (.slice Ao91 t196.length co91 : Value).ownBlock)) (n := t183.length) (c := co67) ?_).2.2; exact (by (with_reducible repeat (first | apply Kd.R_alloc | apply Kd.R_drewN | apply Kd.R_drew)); exact (Kd.R_mono (Kd.R_far (p := ⟨gb200, 0, none⟩) (Kd.R_types HO185.out BK200.out (by decide)) (fun _ hk => hk.2) (.slice Ao91 t196.length co91)) (fun _ h_ => h_.1)))); (case side4 => exact (Kd.R_reads' HO185.out).2.1); rintro e w99 ⟨rfl, hb⟩; refine ⟨_, rfl, ?_⟩; replace HO179 := Aside0.mk (Kd.R_below (by (with_reducible repeat (first | apply Kd.R_alloc | apply Kd.R_drewN | apply Kd.R_drew)); exact (Kd.R_mono (Kd.R_far (p := ⟨gb200, 0, none⟩) (Kd.R_types HO179.out BK200.out (by decide)) (fun _ hk => hk.2) (.slice Ao91 t196.length co91)) (fun _ h_ => h_.1))) hb); replace HO182 := Aside0.mk (Kd.R_below (by (with_reducible repeat (first | apply Kd.R_alloc | apply Kd.R_drewN | apply Kd.R_drew)); exact (Kd.R_mono (Kd.R_far (p := ⟨gb200, 0, none⟩) (Kd.R_types HO182.out BK200.out (by decide)) (fun _ hk => hk.2) (.slice Ao91 t196.length co91)) (fun _ h_ => h_.1))) hb); replace HO185 := Aside0.mk (Kd.R_below (by (with_reducible repeat (first | apply Kd.R_alloc | apply Kd.R_drewN | apply Kd.R_drew)); exact (Kd.R_mono (Kd.R_far (p := ⟨gb200, 0, none⟩) (Kd.R_types HO185.out BK200.out (by decide)) (fun _ hk => hk.2) (.slice Ao91 t196.length co91)) (fun _ h_ => h_.1))) hb); replace HO190 := Aside0.mk (Kd.R_below (by (with_reducible repeat (first | apply Kd.R_alloc | apply Kd.R_drewN | apply Kd.R_drew)); exact (Kd.R_mono (Kd.R_far (p := ⟨gb200, 0, none⟩) (Kd.R_types HO190.out BK200.out (by decide)) (fun _ hk => hk.2) (.slice Ao91 t196.length co91)) (fun _ h_ => h_.1))) hb); replace HO194 := Aside0.mk (Kd.R_below (by (with_reducible repeat (first | apply Kd.R_alloc | apply Kd.R_drewN | apply Kd.R_drew)); exact (Kd.R_mono (Kd.R_far (p := ⟨gb200, 0, none⟩) (Kd.R_types HO194.out BK200.out (by decide)) (fun _ hk => hk.2) (.slice Ao91 t196.length co91)) (fun _ h_ => h_.1))) hb); replace HO198 := Aside0.mk (Kd.R_below (by (with_reducible repeat (first | apply Kd.R_alloc | apply Kd.R_drewN | apply Kd.R_drew)); exact (Kd.R_mono (Kd.R_far (p := ⟨gb200, 0, none⟩) (Kd.R_types HO198.out BK200.out (by decide)) (fun _ hk => hk.2) (.slice Ao91 t196.length co91)) (fun _ h_ => h_.1))) hb); replace BK173 := Aside0.mk (blk_below (g := gb173) (o := .cells #[.slice A0_0 l0_0.length c0_0] 29 (0, 0)) (by (with_reducible repeat (first | refine blk_drewN ?_ _ | refine blk_drew ?_ | refine blk_alloc ?_ _)); refine blk_far ?_ NB173_200.out _; (with_reducible repeat (first | refine blk_drewN ?_ _ | refine blk_drew ?_ | refine blk_alloc ?_ _)); exact BK173.out) hb); replace BK174 := Aside0.mk (blk_below (g := gb174) (o := .cells #[.slice A1_0 l1_0.length c1_0] 29 (0, 0)) (by (with_reducible repeat (first | refine blk_drewN ?_ _ | refine blk_drew ?_ | refine blk_alloc ?_ _)); refine blk_far ?_ NB174_200.out _; (with_reducible repeat (first | refine blk_drewN ?_ _ | refine blk_drew ?_ | refine blk_alloc ?_ _)); exact BK174.out) hb); replace BK187 := Aside0.mk (blk_below (g := gb187) (o := .cells #[.slice Ao67 t183.length co67] 32 (0, 0)) (by (with_reducible repeat (first | refine blk_drewN ?_ _ | refine blk_drew ?_ | refine blk_alloc ?_ _)); refine blk_far ?_ NB187_200.out _; (with_reducible repeat (first | refine blk_drewN ?_ _ | refine blk_drew ?_ | refine blk_alloc ?_ _)); exact BK187.out) hb); replace BK191 := Aside0.mk (blk_below (g := gb191) (o := .cells #[.slice Ao73 t188.length co73] 32 (0, 0)) (by (with_reducible repeat (first | refine blk_drewN ?_ _ | refine blk_drew ?_ | refine blk_alloc ?_ _)); refine blk_far ?_ NB191_200.out _; (with_reducible repeat (first | refine blk_drewN ?_ _ | refine blk_drew ?_ | refine blk_alloc ?_ _)); exact BK191.out) hb); replace BK195 := Aside0.mk (blk_below (g := gb195) (o := .cells #[.slice Ao82 t192.length co82] 32 (0, 0)) (by (with_reducible repeat (first | refine blk_drewN ?_ _ | refine blk_drew ?_ | refine blk_alloc ?_ _)); refine blk_far ?_ NB195_200.out _; (with_reducible repeat (first | refine blk_drewN ?_ _ | refine blk_drew ?_ | refine blk_alloc ?_ _)); exact BK195.out) hb); replace BK200 := Aside0.mk (blk_below (g := gb200) (o := .cells #[.slice Ao91 t196.length co91] 32 (0, 0)) (by (with_reducible repeat (first | refine blk_drewN ?_ _ | refine blk_drew ?_ | refine blk_alloc ?_ _)); refine blk_put (cs := #[.slice none 0 0]) ?_ 0 _ rfl; (with_reducible repeat (first | refine blk_drewN ?_ _ | refine blk_drew ?_ | refine blk_alloc ?_ _)); exact BK200.out) hb); replace HB := Aside0.mk (below_step (bB HB) hb); (try clear hb); (try clear hb2); (try clear hk); (try clear hi)))
               replace HO179 := Aside0.mk (Kd.R_drew HO179.out)
               replace HO182 := Aside0.mk (Kd.R_drew HO182.out)
               replace HO185 := Aside0.mk (Kd.R_drew HO185.out)
               replace HO190 := Aside0.mk (Kd.R_drew HO190.out)
               replace HO194 := Aside0.mk (Kd.R_drew HO194.out)
               replace HO198 := Aside0.mk (Kd.R_drew HO198.out)
               replace BK173 := Aside0.mk (blk_drew BK173.out)
               replace BK174 := Aside0.mk (blk_drew BK174.out)
               replace BK187 := Aside0.mk (blk_drew BK187.out)
               replace BK191 := Aside0.mk (blk_drew BK191.out)
               replace BK195 := Aside0.mk (blk_drew BK195.out)
               replace BK200 := Aside0.mk (blk_drew BK200.out)
               replace HB := Aside0.mk (below_drew1 HB.out)
               refine start_ (n := 5) (S := fun w' => w'.cell? ⟨gb191, 0, none⟩ = some (.slice Ao73 t188.length co73) ∧ w'.cell? ⟨gb173, 0, none⟩ = some (.slice A0_0 l0_0.length c0_0)) (ds := []) #[false, false, false, false, false] (by kernel_rfl) rfl rfl ⟨(blk_cell BK191.out 0).trans rfl, (blk_cell BK173.out 0).trans rfl⟩ (fun hHeld => ?_)
               generalize w99.drew = w100 at HO179 HO182 HO185 HO190 HO194 HO198 BK173 BK174 BK187 BK191 BK195 BK200 HB hHeld ⊢
               refine take_ (i := 0) (N := some 54) (v := ?_) (a' := ?_) #[true, false, false, false, false] rfl rfl (by kernel_rfl) (fun _ _ _ h => h) (Or.inl ⟨by rfl, ?_⟩) hHeld ?_ ?_
               rotate_left
               ·rintro w' ⟨s0, s1⟩
                go_simp
                with_reducible rfl
               rotate_left
               ·simp only [Act.put, List.setIfInBounds_toArray, List.set_cons_zero, List.set_cons_succ, i64_w, i32_w]
                rfl
               refine take_ (i := 1) (N := some 55) (v := ?_) (a' := ?_) #[true, true, false, false, false] rfl rfl (by kernel_rfl) (fun _ _ _ h => h) (Or.inl ⟨by rfl, ?_⟩) hHeld ?_ ?_
               rotate_left
               ·rintro w' ⟨s0, s1⟩
                go_simp
                with_reducible rfl
               rotate_left
               ·simp only [Act.put, List.setIfInBounds_toArray, List.set_cons_zero, List.set_cons_succ, i64_w, i32_w]
                rfl
               refine one_ (i := 2) (N := some 56) #[true, true, true, false, false] rfl rfl (by kernel_rfl) (by decide) (fun K hK => ?_)
               refine goes_ Try.func17 (by kernel_rfl) rfl #[.agg #[.slice A0_0 l0_0.length c0_0]] (by rfl) rfl rfl (by (try simp only [List.map_toArray, List.map_cons, List.map_nil]); first | done | rfl | (simp only [List.length_drop, List.length_take]; rfl)) ?_
               with_reducible refine (laws_toFilter.calls k _ _ l0_0 t202 _ ?side1 ?side2 A28.out).mono ?_
               (case side1 => repeat (first | exact (Kd.C_below HR0_0.out HB.out) | (with_reducible refine Kd.C_alloc ?_ _) | (with_reducible refine Kd.C_drewN ?_ _) | (with_reducible refine Kd.C_drew ?_)))
               (case side2 => exact HC0_0.out)
               rintro e w101 ⟨v203, rfl, ho0, hb⟩
               refine ⟨_, rfl, ?_⟩
               have HO204 := Aside0.mk (Kd.R_lower (Kd.R_new' (Kd.R_new' (Kd.R_new' (Kd.R_new' (Kd.R_new' (Kd.R_new' ho0 (Kd.R_lt (aR HO179))) (Kd.R_lt (aR HO182))) (Kd.R_lt (aR HO185))) (Kd.R_lt (aR HO190))) (Kd.R_lt (aR HO194))) (Kd.R_lt (aR HO198))) (below_size (bB HB)))
               replace HO179 := Aside0.mk (Kd.R_elder' (aR HO179) (Kd.R_base ho0) hb)
               replace HO182 := Aside0.mk (Kd.R_elder' (aR HO182) (Kd.R_base ho0) hb)
               replace HO185 := Aside0.mk (Kd.R_elder' (aR HO185) (Kd.R_base ho0) hb)
               replace HO190 := Aside0.mk (Kd.R_elder' (aR HO190) (Kd.R_base ho0) hb)
               replace HO194 := Aside0.mk (Kd.R_elder' (aR HO194) (Kd.R_base ho0) hb)
               replace HO198 := Aside0.mk (Kd.R_elder' (aR HO198) (Kd.R_base ho0) hb)
               replace BK173 := Aside0.mk (blk_below (g := gb173) (o := .cells #[.slice A0_0 l0_0.length c0_0] 29 (0, 0)) (kB BK173) hb)
               replace BK174 := Aside0.mk (blk_below (g := gb174) (o := .cells #[.slice A1_0 l1_0.length c1_0] 29 (0, 0)) (kB BK174) hb)
               replace BK187 := Aside0.mk (blk_below (g := gb187) (o := .cells #[.slice Ao67 t183.length co67] 32 (0, 0)) (kB BK187) hb)
               replace BK191 := Aside0.mk (blk_below (g := gb191) (o := .cells #[.slice Ao73 t188.length co73] 32 (0, 0)) (kB BK191) hb)
               replace BK195 := Aside0.mk (blk_below (g := gb195) (o := .cells #[.slice Ao82 t192.length co82] 32 (0, 0)) (kB BK195) hb)
               replace BK200 := Aside0.mk (blk_below (g := gb200) (o := .cells #[.slice Ao91 t196.length co91] 32 (0, 0)) (kB BK200) hb)
               replace HB := Aside0.mk (below_step (bB HB) hb)
               (try clear hb);(try clear hb2);(try clear hk);(try clear hi);(try clear ho0)
               obtain ⟨Ao102, co102, eo102⟩ := Kd.R_slice HO204.out
               (first | subst eo102 | (injection eo102 with f1_ f2_ f3_; have f4_ := f1_.symm; have f5_ := f3_.symm; clear f1_ f2_ f3_; subst f4_; subst f5_))
               refine hK.out _ _ ⟨(blk_cell BK191.out 0).trans rfl, (blk_cell BK173.out 0).trans rfl⟩ (fun hHeld => ?_)
               clear hK K
               refine norm_ (a' := ?_) ?_ ?_
               rotate_left
               ·show Act.put _ (some 56) _ = _
                simp only [Act.put, List.setIfInBounds_toArray, List.set_cons_zero, List.set_cons_succ, i64_w, i32_w]
                rfl
               refine one_ (i := 3) (N := some 57) #[true, true, true, true, false] rfl rfl (by kernel_rfl) (by decide) (fun K hK => ?_)
               refine goes_ Try.func19 (by kernel_rfl) rfl #[.agg #[.slice Ao73 t188.length co73], .agg #[.slice Ao102 t202.length co102]] (by rfl) rfl rfl (by (try simp only [List.map_toArray, List.map_cons, List.map_nil]); first | done | rfl | (simp only [List.length_drop, List.length_take]; rfl)) ?_
               with_reducible refine (laws_eqFilter.calls k _ _ t188 _ _ t202 true _ ?side1 ?side2 ?side3 ?side4 A29.out).mono ?_
               (case side1 => repeat (first | exact (Kd.R_reads' HO190.out).2.2 | (with_reducible refine Kd.C_alloc ?_ _) | (with_reducible refine Kd.C_drewN ?_ _) | (with_reducible refine Kd.C_drew ?_)))
               (case side2 => exact (Kd.R_reads' HO190.out).2.1)
               (case side3 => repeat (first | exact (Kd.R_reads' HO204.out).2.2 | (with_reducible refine Kd.C_alloc ?_ _) | (with_reducible refine Kd.C_drewN ?_ _) | (with_reducible refine Kd.C_drew ?_)))
               (case side4 => exact (Kd.R_reads' HO204.out).2.1)
               rintro e w103 ⟨rfl, hb⟩
               refine ⟨_, rfl, ?_⟩
               replace HO179 := Aside0.mk (Kd.R_below (aR HO179) hb)
               replace HO182 := Aside0.mk (Kd.R_below (aR HO182) hb)
               replace HO185 := Aside0.mk (Kd.R_below (aR HO185) hb)
               replace HO190 := Aside0.mk (Kd.R_below (aR HO190) hb)
               replace HO194 := Aside0.mk (Kd.R_below (aR HO194) hb)
               replace HO198 := Aside0.mk (Kd.R_below (aR HO198) hb)
               replace HO204 := Aside0.mk (Kd.R_below (aR HO204) hb)
               replace BK173 := Aside0.mk (blk_below (g := gb173) (o := .cells #[.slice A0_0 l0_0.length c0_0] 29 (0, 0)) (kB BK173) hb)
               replace BK174 := Aside0.mk (blk_below (g := gb174) (o := .cells #[.slice A1_0 l1_0.length c1_0] 29 (0, 0)) (kB BK174) hb)
               replace BK187 := Aside0.mk (blk_below (g := gb187) (o := .cells #[.slice Ao67 t183.length co67] 32 (0, 0)) (kB BK187) hb)
               replace BK191 := Aside0.mk (blk_below (g := gb191) (o := .cells #[.slice Ao73 t188.length co73] 32 (0, 0)) (kB BK191) hb)
               replace BK195 := Aside0.mk (blk_below (g := gb195) (o := .cells #[.slice Ao82 t192.length co82] 32 (0, 0)) (kB BK195) hb)
               replace BK200 := Aside0.mk (blk_below (g := gb200) (o := .cells #[.slice Ao91 t196.length co91] 32 (0, 0)) (kB BK200) hb)
               replace HB := Aside0.mk (below_step (bB HB) hb)
               (try clear hb);(try clear hb2);(try clear hk);(try clear hi)
               refine hK.out _ _ ⟨(blk_cell BK191.out 0).trans rfl, (blk_cell BK173.out 0).trans rfl⟩ (fun hHeld => ?_)
               clear hK K
               refine norm_ (a' := ?_) ?_ ?_
               rotate_left
               ·show Act.put _ (some 57) _ = _
                simp only [Act.put, List.setIfInBounds_toArray, List.set_cons_zero, List.set_cons_succ, i64_w, i32_w]
                rfl
               refine pure_ (i := 4) (N := some 58) (v := ?_) (a' := ?_) #[true, true, true, true, true] rfl rfl (by kernel_rfl) (fun _ _ _ h => h) (Or.inl ⟨by rfl, ?_⟩) ?_ ?_
               rotate_left
               ·intro w'
                go_simp
                with_reducible rfl
               rotate_left
               ·simp only [Act.put, List.setIfInBounds_toArray, List.set_cons_zero, List.set_cons_succ, i64_w, i32_w]
                rfl
               refine done_ (by kernel_rfl) ?_
               try go_wp2
               replace HO179 := Aside0.mk (Kd.R_drew HO179.out)
               replace HO182 := Aside0.mk (Kd.R_drew HO182.out)
               replace HO185 := Aside0.mk (Kd.R_drew HO185.out)
               replace HO190 := Aside0.mk (Kd.R_drew HO190.out)
               replace HO194 := Aside0.mk (Kd.R_drew HO194.out)
               replace HO198 := Aside0.mk (Kd.R_drew HO198.out)
               replace HO204 := Aside0.mk (Kd.R_drew HO204.out)
               replace BK173 := Aside0.mk (blk_drew BK173.out)
               replace BK174 := Aside0.mk (blk_drew BK174.out)
               replace BK187 := Aside0.mk (blk_drew BK187.out)
               replace BK191 := Aside0.mk (blk_drew BK191.out)
               replace BK195 := Aside0.mk (blk_drew BK195.out)
               replace BK200 := Aside0.mk (blk_drew BK200.out)
               replace HB := Aside0.mk (below_drew1 HB.out)
               refine start_ (n := 5) (S := fun w' => w'.cell? ⟨gb195, 0, none⟩ = some (.slice Ao82 t192.length co82) ∧ w'.cell? ⟨gb174, 0, none⟩ = some (.slice A1_0 l1_0.length c1_0)) (ds := []) #[false, false, false, false, false] (by kernel_rfl) rfl rfl ⟨(blk_cell BK195.out 0).trans rfl, (blk_cell BK174.out 0).trans rfl⟩ (fun hHeld => ?_)
               generalize w103.drew = w104 at HO179 HO182 HO185 HO190 HO194 HO198 HO204 BK173 BK174 BK187 BK191 BK195 BK200 HB hHeld ⊢
               refine take_ (i := 0) (N := some 59) (v := ?_) (a' := ?_) #[true, false, false, false, false] rfl rfl (by kernel_rfl) (fun _ _ _ h => h) (Or.inl ⟨by rfl, ?_⟩) hHeld ?_ ?_
               rotate_left
               ·rintro w' ⟨s0, s1⟩
                go_simp
                with_reducible rfl
               rotate_left
               ·simp only [Act.put, List.setIfInBounds_toArray, List.set_cons_zero, List.set_cons_succ, i64_w, i32_w]
                rfl
               refine take_ (i := 1) (N := some 60) (v := ?_) (a' := ?_) #[true, true, false, false, false] rfl rfl (by kernel_rfl) (fun _ _ _ h => h) (Or.inl ⟨by rfl, ?_⟩) hHeld ?_ ?_
               rotate_left
               ·rintro w' ⟨s0, s1⟩
                go_simp
                with_reducible rfl
               rotate_left
               ·simp only [Act.put, List.setIfInBounds_toArray, List.set_cons_zero, List.set_cons_succ, i64_w, i32_w]
                rfl
               refine one_ (i := 2) (N := some 61) #[true, true, true, false, false] rfl rfl (by kernel_rfl) (by decide) (fun K hK => ?_)
               refine goes_ Try.func17 (by kernel_rfl) rfl #[.agg #[.slice A1_0 l1_0.length c1_0]] (by rfl) rfl rfl (by (try simp only [List.map_toArray, List.map_cons, List.map_nil]); first | done | rfl | (simp only [List.length_drop, List.length_take]; rfl)) ?_
               with_reducible refine (laws_toFilter.calls k _ _ l1_0 t206 _ ?side1 ?side2 A31.out).mono ?_
               (case side1 => repeat (first | exact (Kd.C_below HR1_0.out HB.out) | (with_reducible refine Kd.C_alloc ?_ _) | (with_reducible refine Kd.C_drewN ?_ _) | (with_reducible refine Kd.C_drew ?_)))
               (case side2 => exact HC1_0.out)
               rintro e w105 ⟨v207, rfl, ho0, hb⟩
               refine ⟨_, rfl, ?_⟩
               have HO208 := Aside0.mk (Kd.R_lower (Kd.R_new' (Kd.R_new' (Kd.R_new' (Kd.R_new' (Kd.R_new' (Kd.R_new' (Kd.R_new' ho0 (Kd.R_lt (aR HO179))) (Kd.R_lt (aR HO182))) (Kd.R_lt (aR HO185))) (Kd.R_lt (aR HO190))) (Kd.R_lt (aR HO194))) (Kd.R_lt (aR HO198))) (Kd.R_lt (aR HO204))) (below_size (bB HB)))
               replace HO179 := Aside0.mk (Kd.R_elder' (aR HO179) (Kd.R_base ho0) hb)
               replace HO182 := Aside0.mk (Kd.R_elder' (aR HO182) (Kd.R_base ho0) hb)
               replace HO185 := Aside0.mk (Kd.R_elder' (aR HO185) (Kd.R_base ho0) hb)
               replace HO190 := Aside0.mk (Kd.R_elder' (aR HO190) (Kd.R_base ho0) hb)
               replace HO194 := Aside0.mk (Kd.R_elder' (aR HO194) (Kd.R_base ho0) hb)
               replace HO198 := Aside0.mk (Kd.R_elder' (aR HO198) (Kd.R_base ho0) hb)
               replace HO204 := Aside0.mk (Kd.R_elder' (aR HO204) (Kd.R_base ho0) hb)
               replace BK173 := Aside0.mk (blk_below (g := gb173) (o := .cells #[.slice A0_0 l0_0.length c0_0] 29 (0, 0)) (kB BK173) hb)
               replace BK174 := Aside0.mk (blk_below (g := gb174) (o := .cells #[.slice A1_0 l1_0.length c1_0] 29 (0, 0)) (kB BK174) hb)
               replace BK187 := Aside0.mk (blk_below (g := gb187) (o := .cells #[.slice Ao67 t183.length co67] 32 (0, 0)) (kB BK187) hb)
               replace BK191 := Aside0.mk (blk_below (g := gb191) (o := .cells #[.slice Ao73 t188.length co73] 32 (0, 0)) (kB BK191) hb)
               replace BK195 := Aside0.mk (blk_below (g := gb195) (o := .cells #[.slice Ao82 t192.length co82] 32 (0, 0)) (kB BK195) hb)
               replace BK200 := Aside0.mk (blk_below (g := gb200) (o := .cells #[.slice Ao91 t196.length co91] 32 (0, 0)) (kB BK200) hb)
               replace HB := Aside0.mk (below_step (bB HB) hb)
               (try clear hb);(try clear hb2);(try clear hk);(try clear hi);(try clear ho0)
               obtain ⟨Ao106, co106, eo106⟩ := Kd.R_slice HO208.out
               (first | subst eo106 | (injection eo106 with f1_ f2_ f3_; have f4_ := f1_.symm; have f5_ := f3_.symm; clear f1_ f2_ f3_; subst f4_; subst f5_))
               refine hK.out _ _ ⟨(blk_cell BK195.out 0).trans rfl, (blk_cell BK174.out 0).trans rfl⟩ (fun hHeld => ?_)
               clear hK K
               refine norm_ (a' := ?_) ?_ ?_
               rotate_left
               ·show Act.put _ (some 61) _ = _
                simp only [Act.put, List.setIfInBounds_toArray, List.set_cons_zero, List.set_cons_succ, i64_w, i32_w]
                rfl
               refine one_ (i := 3) (N := some 62) #[true, true, true, true, false] rfl rfl (by kernel_rfl) (by decide) (fun K hK => ?_)
               refine goes_ Try.func19 (by kernel_rfl) rfl #[.agg #[.slice Ao82 t192.length co82], .agg #[.slice Ao106 t206.length co106]] (by rfl) rfl rfl (by (try simp only [List.map_toArray, List.map_cons, List.map_nil]); first | done | rfl | (simp only [List.length_drop, List.length_take]; rfl)) ?_
               with_reducible refine (laws_eqFilter.calls k _ _ t192 _ _ t206 true _ ?side1 ?side2 ?side3 ?side4 A32.out).mono ?_
               (case side1 => repeat (first | exact (Kd.R_reads' HO194.out).2.2 | (with_reducible refine Kd.C_alloc ?_ _) | (with_reducible refine Kd.C_drewN ?_ _) | (with_reducible refine Kd.C_drew ?_)))
               (case side2 => exact (Kd.R_reads' HO194.out).2.1)
               (case side3 => repeat (first | exact (Kd.R_reads' HO208.out).2.2 | (with_reducible refine Kd.C_alloc ?_ _) | (with_reducible refine Kd.C_drewN ?_ _) | (with_reducible refine Kd.C_drew ?_)))
               (case side4 => exact (Kd.R_reads' HO208.out).2.1)
               rintro e w107 ⟨rfl, hb⟩
               refine ⟨_, rfl, ?_⟩
               replace HO179 := Aside0.mk (Kd.R_below (aR HO179) hb)
               replace HO182 := Aside0.mk (Kd.R_below (aR HO182) hb)
               replace HO185 := Aside0.mk (Kd.R_below (aR HO185) hb)
               replace HO190 := Aside0.mk (Kd.R_below (aR HO190) hb)
               replace HO194 := Aside0.mk (Kd.R_below (aR HO194) hb)
               replace HO198 := Aside0.mk (Kd.R_below (aR HO198) hb)
               replace HO204 := Aside0.mk (Kd.R_below (aR HO204) hb)
               replace HO208 := Aside0.mk (Kd.R_below (aR HO208) hb)
               replace BK173 := Aside0.mk (blk_below (g := gb173) (o := .cells #[.slice A0_0 l0_0.length c0_0] 29 (0, 0)) (kB BK173) hb)
               replace BK174 := Aside0.mk (blk_below (g := gb174) (o := .cells #[.slice A1_0 l1_0.length c1_0] 29 (0, 0)) (kB BK174) hb)
               replace BK187 := Aside0.mk (blk_below (g := gb187) (o := .cells #[.slice Ao67 t183.length co67] 32 (0, 0)) (kB BK187) hb)
               replace BK191 := Aside0.mk (blk_below (g := gb191) (o := .cells #[.slice Ao73 t188.length co73] 32 (0, 0)) (kB BK191) hb)
               replace BK195 := Aside0.mk (blk_below (g := gb195) (o := .cells #[.slice Ao82 t192.length co82] 32 (0, 0)) (kB BK195) hb)
               replace BK200 := Aside0.mk (blk_below (g := gb200) (o := .cells #[.slice Ao91 t196.length co91] 32 (0, 0)) (kB BK200) hb)
               replace HB := Aside0.mk (below_step (bB HB) hb)
               (try clear hb);(try clear hb2);(try clear hk);(try clear hi)
               refine hK.out _ _ ⟨(blk_cell BK195.out 0).trans rfl, (blk_cell BK174.out 0).trans rfl⟩ (fun hHeld => ?_)
               clear hK K
               refine norm_ (a' := ?_) ?_ ?_
               rotate_left
               ·show Act.put _ (some 62) _ = _
                simp only [Act.put, List.setIfInBounds_toArray, List.set_cons_zero, List.set_cons_succ, i64_w, i32_w]
                rfl
               refine pure_ (i := 4) (N := some 63) (v := ?_) (a' := ?_) #[true, true, true, true, true] rfl rfl (by kernel_rfl) (fun _ _ _ h => h) (Or.inl ⟨by rfl, ?_⟩) ?_ ?_
               rotate_left
               ·intro w'
                go_simp
                with_reducible rfl
               rotate_left
               ·simp only [Act.put, List.setIfInBounds_toArray, List.set_cons_zero, List.set_cons_succ, i64_w, i32_w]
                rfl
               refine done_ (by kernel_rfl) ?_
               have hcz108_0 : w107.cell? ⟨gb191, 0, none⟩ = some (.slice Ao73 t188.length co73) := (blk_cell BK191.out 0).trans rfl
               have hfz108_0 := blk_frozen BK191.out 0
               try go_wp2_with (first | ((with_reducible refine gate_callee (f := 22) rfl ?_); refine goesL_ (some 66) rfl rfl Try.func22 (by kernel_rfl) rfl #[.agg #[.slice Ao73 t188.length co73], .int .i64 1] rfl (by (try simp only [List.map_toArray, List.map_cons, List.map_nil]); first | done | rfl | (simp only [List.length_drop, List.length_take]; rfl)) ?_; (with_reducible refine (laws_markFilter.calls k (fun k_ => some k_ = (.slice Ao73 t188.length co73 : Value).ownBlock) (.slice Ao73 t188.length co73) t188 1 t210 t211 w _ ?side1 ?side2 A34.out).mono ?_); (case side1 => repeat (first | (with_reducible first | exact HB.out | apply below_alloc | apply pw_below_drewN | apply below_drew1 | refine below_set ?_ GE173.out | refine below_set ?_ GE174.out | refine below_set ?_ GE187.out | refine below_set ?_ GE191.out | refine below_set ?_ GE195.out | refine below_set ?_ GE200.out) | exact HB.out)); (case side2 => exact Kd.R_tight rfl HO190.out); rintro e w109 ⟨rfl, hy0, hb, hkp⟩; refine ⟨_, rfl, ?_⟩; replace BK173 := Aside0.mk (blk_kept (kB BK173) hkp (fun hs_ => (fun e_ => (Kd.R_ne HO190.out BK173.out (by decide)) e_) hs_)); replace BK174 := Aside0.mk (blk_kept (kB BK174) hkp (fun hs_ => (fun e_ => (Kd.R_ne HO190.out BK174.out (by decide)) e_) hs_)); replace HO179 := Aside0.mk (Kd.R_mono (ok' := fun k_ => some k_ ≠ (v181 : Value).ownBlock ∧ some k_ ≠ (.slice Ao67 t183.length co67 : Value).ownBlock ∧ some k_ ≠ (.slice Ao73 t188.length co73 : Value).ownBlock ∧ some k_ ≠ (.slice Ao82 t192.length co82 : Value).ownBlock ∧ some k_ ≠ (.slice Ao91 t196.length co91 : Value).ownBlock ∧ some k_ ≠ (.slice Ao102 t202.length co102 : Value).ownBlock ∧ some k_ ≠ (.slice Ao106 t206.length co106 : Value).ownBlock) (Kd.R_keptB (HO179.out) hkp (fun k_ hk_ hs_ => (hk_.1.1.1.1.2) hs_)) (fun k_ hk_ => ⟨hk_.1.1.1.1.1.1.1, hk_.1.1.1.1.1.1.2, hk_.1.1.1.1.1.2, hk_.1.1.1.1.2, hk_.1.1.1.2, hk_.1.1.2, hk_.1.2⟩)); replace HO182 := Aside0.mk (Kd.R_mono (ok' := fun k_ => some k_ ≠ (v178 : Value).ownBlock ∧ some k_ ≠ (.slice Ao67 t183.length co67 : Value).ownBlock ∧ some k_ ≠ (.slice Ao73 t188.length co73 : Value).ownBlock ∧ some k_ ≠ (.slice Ao82 t192.length co82 : Value).ownBlock ∧ some k_ ≠ (.slice Ao91 t196.length co91 : Value).ownBlock ∧ some k_ ≠ (.slice Ao102 t202.length co102 : Value).ownBlock ∧ some k_ ≠ (.slice Ao106 t206.length co106 : Value).ownBlock) (Kd.R_keptB (HO182.out) hkp (fun k_ hk_ hs_ => (hk_.1.1.1.1.2) hs_)) (fun k_ hk_ => ⟨hk_.1.1.1.1.1.1.1, hk_.1.1.1.1.1.1.2, hk_.1.1.1.1.1.2, hk_.1.1.1.1.2, hk_.1.1.1.2, hk_.1.1.2, hk_.1.2⟩)); replace HO185 := Aside0.mk (Kd.R_mono (ok' := fun k_ => some k_ ≠ (v178 : Value).ownBlock ∧ some k_ ≠ (v181 : Value).ownBlock ∧ some k_ ≠ (.slice Ao73 t188.length co73 : Value).ownBlock ∧ some k_ ≠ (.slice Ao82 t192.length co82 : Value).ownBlock ∧ some k_ ≠ (.slice Ao91 t196.length co91 : Value).ownBlock ∧ some k_ ≠ (.slice Ao102 t202.length co102 : Value).ownBlock ∧ some k_ ≠ (.slice Ao106 t206.length co106 : Value).ownBlock) (Kd.R_keptB (HO185.out) hkp (fun k_ hk_ hs_ => (hk_.1.1.1.1.2) hs_)) (fun k_ hk_ => ⟨hk_.1.1.1.1.1.1.1, hk_.1.1.1.1.1.1.2, hk_.1.1.1.1.1.2, hk_.1.1.1.1.2, hk_.1.1.1.2, hk_.1.1.2, hk_.1.2⟩)); replace BK187 := Aside0.mk (blk_kept (kB BK187) hkp (fun hs_ => (fun e_ => (Kd.R_ne HO190.out BK187.out (by decide)) e_) hs_)); replace BK191 := Aside0.mk (blk_kept (kB BK191) hkp (fun hs_ => (fun e_ => (Kd.R_ne HO190.out BK191.out (by decide)) e_) hs_)); replace HO194 := Aside0.mk (Kd.R_mono (ok' := fun k_ => some k_ ≠ (v178 : Value).ownBlock ∧ some k_ ≠ (v181 : Value).ownBlock ∧ some k_ ≠ (.slice Ao67 t183.length co67 : Value).ownBlock ∧ some k_ ≠ (.slice Ao73 t188.length co73 : Value).ownBlock ∧ some k_ ≠ (.slice Ao91 t196.length co91 : Value).ownBlock ∧ some k_ ≠ (.slice Ao102 t202.length co102 : Value).ownBlock ∧ some k_ ≠ (.slice Ao106 t206.length co106 : Value).ownBlock) (Kd.R_keptB (HO194.out) hkp (fun k_ hk_ hs_ => (hk_.1.1.1.2) hs_)) (fun k_ hk_ => ⟨hk_.1.1.1.1.1.1.1.2, hk_.1.1.1.1.1.1.2, hk_.1.1.1.1.1.2, hk_.1.1.1.1.2, hk_.1.1.1.2, hk_.1.1.2, hk_.1.2⟩)); replace BK195 := Aside0.mk (blk_kept (kB BK195) hkp (fun hs_ => (fun e_ => (Kd.R_ne HO190.out BK195.out (by decide)) e_) hs_)); replace HO198 := Aside0.mk (Kd.R_mono (ok' := fun k_ => some k_ ≠ (v178 : Value).ownBlock ∧ some k_ ≠ (v181 : Value).ownBlock ∧ some k_ ≠ (.slice Ao67 t183.length co67 : Value).ownBlock ∧ some k_ ≠ (.slice Ao73 t188.length co73 : Value).ownBlock ∧ some k_ ≠ (.slice Ao82 t192.length co82 : Value).ownBlock ∧ some k_ ≠ (.slice Ao102 t202.length co102 : Value).ownBlock ∧ some k_ ≠ (.slice Ao106 t206.length co106 : Value).ownBlock) (Kd.R_keptB (HO198.out) hkp (fun k_ hk_ hs_ => (hk_.1.1.1.2) hs_)) (fun k_ hk_ => ⟨hk_.1.1.1.1.1.1.1.2, hk_.1.1.1.1.1.1.2, hk_.1.1.1.1.1.2, hk_.1.1.1.1.2, hk_.1.1.1.2, hk_.1.1.2, hk_.1.2⟩)); replace BK200 := Aside0.mk (blk_kept (kB BK200) hkp (fun hs_ => (fun e_ => (Kd.R_ne HO190.out BK200.out (by decide)) e_) hs_)); replace HO190 := Aside0.mk (Kd.R_reok rfl hy0 (fun k_ e_ => HO190.out.1 k_ e_)); replace HO204 := Aside0.mk (Kd.R_mono (ok' := fun k_ => some k_ ≠ (v178 : Value).ownBlock ∧ some k_ ≠ (v181 : Value).ownBlock ∧ some k_ ≠ (.slice Ao67 t183.length co67 : Value).ownBlock ∧ some k_ ≠ (.slice Ao73 t188.length co73 : Value).ownBlock ∧ some k_ ≠ (.slice Ao82 t192.length co82 : Value).ownBlock ∧ some k_ ≠ (.slice Ao91 t196.length co91 : Value).ownBlock ∧ some k_ ≠ (.slice Ao106 t206.length co106 : Value).ownBlock) (Kd.R_keptB (HO204.out) hkp (fun k_ hk_ hs_ => (hk_.1.1.1.2) hs_)) (fun k_ hk_ => ⟨hk_.1.1.1.1.1.1.1.2, hk_.1.1.1.1.1.1.2, hk_.1.1.1.1.1.2, hk_.1.1.1.1.2, hk_.1.1.1.2, hk_.1.1.2, hk_.1.2⟩)); replace HO208 := Aside0.mk (Kd.R_mono (ok' := fun k_ => some k_ ≠ (v178 : Value).ownBlock ∧ some k_ ≠ (v181 : Value).ownBlock ∧ some k_ ≠ (.slice Ao67 t183.length co67 : Value).ownBlock ∧ some k_ ≠ (.slice Ao73 t188.length co73 : Value).ownBlock ∧ some k_ ≠ (.slice Ao82 t192.length co82 : Value).ownBlock ∧ some k_ ≠ (.slice Ao91 t196.length co91 : Value).ownBlock ∧ some k_ ≠ (.slice Ao102 t202.length co102 : Value).ownBlock) (Kd.R_keptB (HO208.out) hkp (fun k_ hk_ hs_ => (hk_.1.1.1.2) hs_)) (fun k_ hk_ => ⟨hk_.1.1.1.1.1.1.1.2, hk_.1.1.1.1.1.1.2, hk_.1.1.1.1.1.2, hk_.1.1.1.1.2, hk_.1.1.1.2, hk_.1.1.2, hk_.1.2⟩)); replace HB := Aside0.mk (hb); (try clear hb); (try clear hkp); (try clear hy0); have hcz110_0 : w109.cell? ⟨gb195, 0, none⟩ = some (.slice Ao82 t192.length co82) := (blk_cell BK195.out 0).trans rfl; have hfz110_0 := blk_frozen BK195.out 0) | ((with_reducible refine gate_callee (f := 22) rfl ?_); refine goesL_ (some 69) rfl rfl Try.func22 (by kernel_rfl) rfl #[.agg #[.slice Ao82 t192.length co82], .int .i64 t210] rfl (by (try simp only [List.map_toArray, List.map_cons, List.map_nil]); first | done | rfl | (simp only [List.length_drop, List.length_take]; rfl)) ?_; (with_reducible refine (laws_markFilter.calls k (fun k_ => some k_ = (.slice Ao82 t192.length co82 : Value).ownBlock) (.slice Ao82 t192.length co82) t192 t210 t212 t213 w _ ?side1 ?side2 A35.out).mono ?_); (case side1 => repeat (first | (with_reducible first | exact HB.out | apply below_alloc | apply pw_below_drewN | apply below_drew1 | refine below_set ?_ GE173.out | refine below_set ?_ GE174.out | refine below_set ?_ GE187.out | refine below_set ?_ GE191.out | refine below_set ?_ GE195.out | refine below_set ?_ GE200.out) | exact HB.out)); (case side2 => exact Kd.R_tight rfl HO194.out); rintro e w111 ⟨rfl, hy0, hb, hkp⟩; refine ⟨_, rfl, ?_⟩; replace BK173 := Aside0.mk (blk_kept (kB BK173) hkp (fun hs_ => (fun e_ => (Kd.R_ne HO194.out BK173.out (by decide)) e_) hs_)); replace BK174 := Aside0.mk (blk_kept (kB BK174) hkp (fun hs_ => (fun e_ => (Kd.R_ne HO194.out BK174.out (by decide)) e_) hs_)); replace HO179 := Aside0.mk (Kd.R_mono (ok' := fun k_ => some k_ ≠ (v181 : Value).ownBlock ∧ some k_ ≠ (.slice Ao67 t183.length co67 : Value).ownBlock ∧ some k_ ≠ (.slice Ao73 t188.length co73 : Value).ownBlock ∧ some k_ ≠ (.slice Ao82 t192.length co82 : Value).ownBlock ∧ some k_ ≠ (.slice Ao91 t196.length co91 : Value).ownBlock ∧ some k_ ≠ (.slice Ao102 t202.length co102 : Value).ownBlock ∧ some k_ ≠ (.slice Ao106 t206.length co106 : Value).ownBlock) (Kd.R_keptB (HO179.out) hkp (fun k_ hk_ hs_ => (hk_.2.2.2.1) hs_)) (fun k_ hk_ => ⟨hk_.1.1, hk_.1.2.1, hk_.1.2.2.1, hk_.1.2.2.2.1, hk_.1.2.2.2.2.1, hk_.1.2.2.2.2.2.1, hk_.1.2.2.2.2.2.2⟩)); replace HO182 := Aside0.mk (Kd.R_mono (ok' := fun k_ => some k_ ≠ (v178 : Value).ownBlock ∧ some k_ ≠ (.slice Ao67 t183.length co67 : Value).ownBlock ∧ some k_ ≠ (.slice Ao73 t188.length co73 : Value).ownBlock ∧ some k_ ≠ (.slice Ao82 t192.length co82 : Value).ownBlock ∧ some k_ ≠ (.slice Ao91 t196.length co91 : Value).ownBlock ∧ some k_ ≠ (.slice Ao102 t202.length co102 : Value).ownBlock ∧ some k_ ≠ (.slice Ao106 t206.length co106 : Value).ownBlock) (Kd.R_keptB (HO182.out) hkp (fun k_ hk_ hs_ => (hk_.2.2.2.1) hs_)) (fun k_ hk_ => ⟨hk_.1.1, hk_.1.2.1, hk_.1.2.2.1, hk_.1.2.2.2.1, hk_.1.2.2.2.2.1, hk_.1.2.2.2.2.2.1, hk_.1.2.2.2.2.2.2⟩)); replace HO185 := Aside0.mk (Kd.R_mono (ok' := fun k_ => some k_ ≠ (v178 : Value).ownBlock ∧ some k_ ≠ (v181 : Value).ownBlock ∧ some k_ ≠ (.slice Ao73 t188.length co73 : Value).ownBlock ∧ some k_ ≠ (.slice Ao82 t192.length co82 : Value).ownBlock ∧ some k_ ≠ (.slice Ao91 t196.length co91 : Value).ownBlock ∧ some k_ ≠ (.slice Ao102 t202.length co102 : Value).ownBlock ∧ some k_ ≠ (.slice Ao106 t206.length co106 : Value).ownBlock) (Kd.R_keptB (HO185.out) hkp (fun k_ hk_ hs_ => (hk_.2.2.2.1) hs_)) (fun k_ hk_ => ⟨hk_.1.1, hk_.1.2.1, hk_.1.2.2.1, hk_.1.2.2.2.1, hk_.1.2.2.2.2.1, hk_.1.2.2.2.2.2.1, hk_.1.2.2.2.2.2.2⟩)); replace BK187 := Aside0.mk (blk_kept (kB BK187) hkp (fun hs_ => (fun e_ => (Kd.R_ne HO194.out BK187.out (by decide)) e_) hs_)); replace HO190 := Aside0.mk (Kd.R_mono (ok' := fun k_ => some k_ ≠ (v178 : Value).ownBlock ∧ some k_ ≠ (v181 : Value).ownBlock ∧ some k_ ≠ (.slice Ao67 t183.length co67 : Value).ownBlock ∧ some k_ ≠ (.slice Ao82 t192.length co82 : Value).ownBlock ∧ some k_ ≠ (.slice Ao91 t196.length co91 : Value).ownBlock ∧ some k_ ≠ (.slice Ao102 t202.length co102 : Value).ownBlock ∧ some k_ ≠ (.slice Ao106 t206.length co106 : Value).ownBlock) (Kd.R_keptB (HO190.out) hkp (fun k_ hk_ hs_ => (hk_.1.1.1.2) hs_)) (fun k_ hk_ => ⟨hk_.1.1.1.1.1.1.1.2, hk_.1.1.1.1.1.1.2, hk_.1.1.1.1.1.2, hk_.1.1.1.1.2, hk_.1.1.1.2, hk_.1.1.2, hk_.1.2⟩)); replace BK191 := Aside0.mk (blk_kept (kB BK191) hkp (fun hs_ => (fun e_ => (Kd.R_ne HO194.out BK191.out (by decide)) e_) hs_)); replace BK195 := Aside0.mk (blk_kept (kB BK195) hkp (fun hs_ => (fun e_ => (Kd.R_ne HO194.out BK195.out (by decide)) e_) hs_)); replace HO198 := Aside0.mk (Kd.R_mono (ok' := fun k_ => some k_ ≠ (v178 : Value).ownBlock ∧ some k_ ≠ (v181 : Value).ownBlock ∧ some k_ ≠ (.slice Ao67 t183.length co67 : Value).ownBlock ∧ some k_ ≠ (.slice Ao73 t188.length co73 : Value).ownBlock ∧ some k_ ≠ (.slice Ao82 t192.length co82 : Value).ownBlock ∧ some k_ ≠ (.slice Ao102 t202.length co102 : Value).ownBlock ∧ some k_ ≠ (.slice Ao106 t206.length co106 : Value).ownBlock) (Kd.R_keptB (HO198.out) hkp (fun k_ hk_ hs_ => (hk_.2.2.2.2.1) hs_)) (fun k_ hk_ => ⟨hk_.1.1, hk_.1.2.1, hk_.1.2.2.1, hk_.1.2.2.2.1, hk_.1.2.2.2.2.1, hk_.1.2.2.2.2.2.1, hk_.1.2.2.2.2.2.2⟩)); replace BK200 := Aside0.mk (blk_kept (kB BK200) hkp (fun hs_ => (fun e_ => (Kd.R_ne HO194.out BK200.out (by decide)) e_) hs_)); replace HO194 := Aside0.mk (Kd.R_reok rfl hy0 (fun k_ e_ => HO194.out.1 k_ e_)); replace HO204 := Aside0.mk (Kd.R_mono (ok' := fun k_ => some k_ ≠ (v178 : Value).ownBlock ∧ some k_ ≠ (v181 : Value).ownBlock ∧ some k_ ≠ (.slice Ao67 t183.length co67 : Value).ownBlock ∧ some k_ ≠ (.slice Ao73 t188.length co73 : Value).ownBlock ∧ some k_ ≠ (.slice Ao82 t192.length co82 : Value).ownBlock ∧ some k_ ≠ (.slice Ao91 t196.length co91 : Value).ownBlock ∧ some k_ ≠ (.slice Ao106 t206.length co106 : Value).ownBlock) (Kd.R_keptB (HO204.out) hkp (fun k_ hk_ hs_ => (hk_.2.2.2.2.1) hs_)) (fun k_ hk_ => ⟨hk_.1.1, hk_.1.2.1, hk_.1.2.2.1, hk_.1.2.2.2.1, hk_.1.2.2.2.2.1, hk_.1.2.2.2.2.2.1, hk_.1.2.2.2.2.2.2⟩)); replace HO208 := Aside0.mk (Kd.R_mono (ok' := fun k_ => some k_ ≠ (v178 : Value).ownBlock ∧ some k_ ≠ (v181 : Value).ownBlock ∧ some k_ ≠ (.slice Ao67 t183.length co67 : Value).ownBlock ∧ some k_ ≠ (.slice Ao73 t188.length co73 : Value).ownBlock ∧ some k_ ≠ (.slice Ao82 t192.length co82 : Value).ownBlock ∧ some k_ ≠ (.slice Ao91 t196.length co91 : Value).ownBlock ∧ some k_ ≠ (.slice Ao102 t202.length co102 : Value).ownBlock) (Kd.R_keptB (HO208.out) hkp (fun k_ hk_ hs_ => (hk_.2.2.2.2.1) hs_)) (fun k_ hk_ => ⟨hk_.1.1, hk_.1.2.1, hk_.1.2.2.1, hk_.1.2.2.2.1, hk_.1.2.2.2.2.1, hk_.1.2.2.2.2.2.1, hk_.1.2.2.2.2.2.2⟩)); replace HB := Aside0.mk (hb); (try clear hb); (try clear hkp); (try clear hy0); have hcz112_0 : w111.cell? ⟨gb200, 0, none⟩ = some (.slice Ao91 t196.length co91) := (blk_cell BK200.out 0).trans rfl; have hfz112_0 := blk_frozen BK200.out 0; have hcz113_0 : w111.cell? ⟨gb187, 0, none⟩ = some (.slice Ao67 t183.length co67) := (blk_cell BK187.out 0).trans rfl; have hfz113_0 := blk_frozen BK187.out 0) | (go_at_call 19; (with_reducible refine (laws_eqFilter.calls k _ _ t196 _ _ t183 true _ ?side1 ?side2 ?side3 ?side4 A37.out).mono ?_); (case side1 => repeat (first | exact (Kd.R_reads' HO198.out).2.2 | (with_reducible refine Kd.C_alloc ?_ _) | (with_reducible refine Kd.C_drewN ?_ _) | (with_reducible refine Kd.C_drew ?_))); (case side2 => exact (Kd.R_reads' HO198.out).2.1); (case side3 => repeat (first | exact (Kd.R_reads' HO185.out).2.2 | (with_reducible refine Kd.C_alloc ?_ _) | (with_reducible refine Kd.C_drewN ?_ _) | (with_reducible refine Kd.C_drew ?_))); (case side4 => exact (Kd.R_reads' HO185.out).2.1); rintro e w114 ⟨rfl, hb⟩; replace HO179 := Aside0.mk (Kd.R_below (aR HO179) hb); replace HO182 := Aside0.mk (Kd.R_below (aR HO182) hb); replace HO185 := Aside0.mk (Kd.R_below (aR HO185) hb); replace HO190 := Aside0.mk (Kd.R_below (aR HO190) hb); replace HO194 := Aside0.mk (Kd.R_below (aR HO194) hb); replace HO198 := Aside0.mk (Kd.R_below (aR HO198) hb); replace HO204 := Aside0.mk (Kd.R_below (aR HO204) hb); replace HO208 := Aside0.mk (Kd.R_below (aR HO208) hb); replace BK173 := Aside0.mk (blk_below (g := gb173) (o := .cells #[.slice A0_0 l0_0.length c0_0] 29 (0, 0)) (kB BK173) hb); replace BK174 := Aside0.mk (blk_below (g := gb174) (o := .cells #[.slice A1_0 l1_0.length c1_0] 29 (0, 0)) (kB BK174) hb); replace BK187 := Aside0.mk (blk_below (g := gb187) (o := .cells #[.slice Ao67 t183.length co67] 32 (0, 0)) (kB BK187) hb); replace BK191 := Aside0.mk (blk_below (g := gb191) (o := .cells #[.slice Ao73 t188.length co73] 32 (0, 0)) (kB BK191) hb); replace BK195 := Aside0.mk (blk_below (g := gb195) (o := .cells #[.slice Ao82 t192.length co82] 32 (0, 0)) (kB BK195) hb); replace BK200 := Aside0.mk (blk_below (g := gb200) (o := .cells #[.slice Ao91 t196.length co91] 32 (0, 0)) (kB BK200) hb); replace HB := Aside0.mk (below_step (bB HB) hb); (try clear hb); (try clear hb2); (try clear hk); (try clear hi); have hcz115_0 : w114.cell? ⟨gb200, 0, none⟩ = some (.slice Ao91 t196.length co91) := (blk_cell BK200.out 0).trans rfl; have hfz115_0 := blk_frozen BK200.out 0) | ((with_reducible refine gate_callee (f := 22) rfl ?_); refine goesL_ (some 85) rfl rfl Try.func22 (by kernel_rfl) rfl #[.agg #[.slice Ao91 t196.length co91], .int .i64 1] rfl (by (try simp only [List.map_toArray, List.map_cons, List.map_nil]); first | done | rfl | (simp only [List.length_drop, List.length_take]; rfl)) ?_; (with_reducible refine (laws_markFilter.calls k (fun k_ => some k_ = (.slice Ao91 t196.length co91 : Value).ownBlock) (.slice Ao91 t196.length co91) t196 1 t215 t216 w _ ?side1 ?side2 A39.out).mono ?_); (case side1 => repeat (first | (with_reducible first | exact HB.out | apply below_alloc | apply pw_below_drewN | apply below_drew1 | refine below_set ?_ GE173.out | refine below_set ?_ GE174.out | refine below_set ?_ GE187.out | refine below_set ?_ GE191.out | refine below_set ?_ GE195.out | refine below_set ?_ GE200.out) | exact HB.out)); (case side2 => exact Kd.R_tight rfl HO198.out); rintro e w116 ⟨rfl, hy0, hb, hkp⟩; refine ⟨_, rfl, ?_⟩; replace BK173 := Aside0.mk (blk_kept (kB BK173) hkp (fun hs_ => (fun e_ => (Kd.R_ne HO198.out BK173.out (by decide)) e_) hs_)); replace BK174 := Aside0.mk (blk_kept (kB BK174) hkp (fun hs_ => (fun e_ => (Kd.R_ne HO198.out BK174.out (by decide)) e_) hs_)); replace HO179 := Aside0.mk (Kd.R_mono (ok' := fun k_ => some k_ ≠ (v181 : Value).ownBlock ∧ some k_ ≠ (.slice Ao67 t183.length co67 : Value).ownBlock ∧ some k_ ≠ (.slice Ao73 t188.length co73 : Value).ownBlock ∧ some k_ ≠ (.slice Ao82 t192.length co82 : Value).ownBlock ∧ some k_ ≠ (.slice Ao91 t196.length co91 : Value).ownBlock ∧ some k_ ≠ (.slice Ao102 t202.length co102 : Value).ownBlock ∧ some k_ ≠ (.slice Ao106 t206.length co106 : Value).ownBlock) (Kd.R_keptB (HO179.out) hkp (fun k_ hk_ hs_ => (hk_.2.2.2.2.1) hs_)) (fun k_ hk_ => ⟨hk_.1.1, hk_.1.2.1, hk_.1.2.2.1, hk_.1.2.2.2.1, hk_.1.2.2.2.2.1, hk_.1.2.2.2.2.2.1, hk_.1.2.2.2.2.2.2⟩)); replace HO182 := Aside0.mk (Kd.R_mono (ok' := fun k_ => some k_ ≠ (v178 : Value).ownBlock ∧ some k_ ≠ (.slice Ao67 t183.length co67 : Value).ownBlock ∧ some k_ ≠ (.slice Ao73 t188.length co73 : Value).ownBlock ∧ some k_ ≠ (.slice Ao82 t192.length co82 : Value).ownBlock ∧ some k_ ≠ (.slice Ao91 t196.length co91 : Value).ownBlock ∧ some k_ ≠ (.slice Ao102 t202.length co102 : Value).ownBlock ∧ some k_ ≠ (.slice Ao106 t206.length co106 : Value).ownBlock) (Kd.R_keptB (HO182.out) hkp (fun k_ hk_ hs_ => (hk_.2.2.2.2.1) hs_)) (fun k_ hk_ => ⟨hk_.1.1, hk_.1.2.1, hk_.1.2.2.1, hk_.1.2.2.2.1, hk_.1.2.2.2.2.1, hk_.1.2.2.2.2.2.1, hk_.1.2.2.2.2.2.2⟩)); replace HO185 := Aside0.mk (Kd.R_mono (ok' := fun k_ => some k_ ≠ (v178 : Value).ownBlock ∧ some k_ ≠ (v181 : Value).ownBlock ∧ some k_ ≠ (.slice Ao73 t188.length co73 : Value).ownBlock ∧ some k_ ≠ (.slice Ao82 t192.length co82 : Value).ownBlock ∧ some k_ ≠ (.slice Ao91 t196.length co91 : Value).ownBlock ∧ some k_ ≠ (.slice Ao102 t202.length co102 : Value).ownBlock ∧ some k_ ≠ (.slice Ao106 t206.length co106 : Value).ownBlock) (Kd.R_keptB (HO185.out) hkp (fun k_ hk_ hs_ => (hk_.2.2.2.2.1) hs_)) (fun k_ hk_ => ⟨hk_.1.1, hk_.1.2.1, hk_.1.2.2.1, hk_.1.2.2.2.1, hk_.1.2.2.2.2.1, hk_.1.2.2.2.2.2.1, hk_.1.2.2.2.2.2.2⟩)); replace BK187 := Aside0.mk (blk_kept (kB BK187) hkp (fun hs_ => (fun e_ => (Kd.R_ne HO198.out BK187.out (by decide)) e_) hs_)); replace HO190 := Aside0.mk (Kd.R_mono (ok' := fun k_ => some k_ ≠ (v178 : Value).ownBlock ∧ some k_ ≠ (v181 : Value).ownBlock ∧ some k_ ≠ (.slice Ao67 t183.length co67 : Value).ownBlock ∧ some k_ ≠ (.slice Ao82 t192.length co82 : Value).ownBlock ∧ some k_ ≠ (.slice Ao91 t196.length co91 : Value).ownBlock ∧ some k_ ≠ (.slice Ao102 t202.length co102 : Value).ownBlock ∧ some k_ ≠ (.slice Ao106 t206.length co106 : Value).ownBlock) (Kd.R_keptB (HO190.out) hkp (fun k_ hk_ hs_ => (hk_.2.2.2.2.1) hs_)) (fun k_ hk_ => ⟨hk_.1.1, hk_.1.2.1, hk_.1.2.2.1, hk_.1.2.2.2.1, hk_.1.2.2.2.2.1, hk_.1.2.2.2.2.2.1, hk_.1.2.2.2.2.2.2⟩)); replace BK191 := Aside0.mk (blk_kept (kB BK191) hkp (fun hs_ => (fun e_ => (Kd.R_ne HO198.out BK191.out (by decide)) e_) hs_)); replace HO194 := Aside0.mk (Kd.R_mono (ok' := fun k_ => some k_ ≠ (v178 : Value).ownBlock ∧ some k_ ≠ (v181 : Value).ownBlock ∧ some k_ ≠ (.slice Ao67 t183.length co67 : Value).ownBlock ∧ some k_ ≠ (.slice Ao73 t188.length co73 : Value).ownBlock ∧ some k_ ≠ (.slice Ao91 t196.length co91 : Value).ownBlock ∧ some k_ ≠ (.slice Ao102 t202.length co102 : Value).ownBlock ∧ some k_ ≠ (.slice Ao106 t206.length co106 : Value).ownBlock) (Kd.R_keptB (HO194.out) hkp (fun k_ hk_ hs_ => (hk_.2.2.2.2.1) hs_)) (fun k_ hk_ => ⟨hk_.1.1, hk_.1.2.1, hk_.1.2.2.1, hk_.1.2.2.2.1, hk_.1.2.2.2.2.1, hk_.1.2.2.2.2.2.1, hk_.1.2.2.2.2.2.2⟩)); replace BK195 := Aside0.mk (blk_kept (kB BK195) hkp (fun hs_ => (fun e_ => (Kd.R_ne HO198.out BK195.out (by decide)) e_) hs_)); replace BK200 := Aside0.mk (blk_kept (kB BK200) hkp (fun hs_ => (fun e_ => (Kd.R_ne HO198.out BK200.out (by decide)) e_) hs_)); replace HO198 := Aside0.mk (Kd.R_reok rfl hy0 (fun k_ e_ => HO198.out.1 k_ e_)); replace HO204 := Aside0.mk (Kd.R_mono (ok' := fun k_ => some k_ ≠ (v178 : Value).ownBlock ∧ some k_ ≠ (v181 : Value).ownBlock ∧ some k_ ≠ (.slice Ao67 t183.length co67 : Value).ownBlock ∧ some k_ ≠ (.slice Ao73 t188.length co73 : Value).ownBlock ∧ some k_ ≠ (.slice Ao82 t192.length co82 : Value).ownBlock ∧ some k_ ≠ (.slice Ao91 t196.length co91 : Value).ownBlock ∧ some k_ ≠ (.slice Ao106 t206.length co106 : Value).ownBlock) (Kd.R_keptB (HO204.out) hkp (fun k_ hk_ hs_ => (hk_.2.2.2.2.2.1) hs_)) (fun k_ hk_ => ⟨hk_.1.1, hk_.1.2.1, hk_.1.2.2.1, hk_.1.2.2.2.1, hk_.1.2.2.2.2.1, hk_.1.2.2.2.2.2.1, hk_.1.2.2.2.2.2.2⟩)); replace HO208 := Aside0.mk (Kd.R_mono (ok' := fun k_ => some k_ ≠ (v178 : Value).ownBlock ∧ some k_ ≠ (v181 : Value).ownBlock ∧ some k_ ≠ (.slice Ao67 t183.length co67 : Value).ownBlock ∧ some k_ ≠ (.slice Ao73 t188.length co73 : Value).ownBlock ∧ some k_ ≠ (.slice Ao82 t192.length co82 : Value).ownBlock ∧ some k_ ≠ (.slice Ao91 t196.length co91 : Value).ownBlock ∧ some k_ ≠ (.slice Ao102 t202.length co102 : Value).ownBlock) (Kd.R_keptB (HO208.out) hkp (fun k_ hk_ hs_ => (hk_.2.2.2.2.2.1) hs_)) (fun k_ hk_ => ⟨hk_.1.1, hk_.1.2.1, hk_.1.2.2.1, hk_.1.2.2.2.1, hk_.1.2.2.2.2.1, hk_.1.2.2.2.2.2.1, hk_.1.2.2.2.2.2.2⟩)); replace HB := Aside0.mk (hb); (try clear hb); (try clear hkp); (try clear hy0); have hcz117_0 : w116.cell? ⟨gb200, 0, none⟩ = some (.slice Ao91 t196.length co91) := (blk_cell BK200.out 0).trans rfl; have hfz117_0 := blk_frozen BK200.out 0) | ((with_reducible refine gate_callee (f := 23) rfl ?_); refine goesL_ (some 88) rfl rfl Try.func23 (by kernel_rfl) rfl #[.agg #[.slice Ao91 t216.length co91], .int .i64 1] rfl (by (try simp only [List.map_toArray, List.map_cons, List.map_nil]); first | done | (rw [show t216.length = t196.length from (Kd.R_reads' HO198.out).1.symm] <;> rfl) | rfl | (simp only [List.length_drop, List.length_take]; rfl)) ?_; (with_reducible refine (laws_heldFilter.calls k _ _ t216 1 t217 _ ?side1 ?side2 A40.out).mono ?_); (case side1 => repeat (first | exact (Kd.R_reads' HO198.out).2.2 | (with_reducible refine Kd.C_alloc ?_ _) | (with_reducible refine Kd.C_drewN ?_ _) | (with_reducible refine Kd.C_drew ?_))); (case side2 => rw [show t216.length = t196.length from (Kd.R_reads' HO198.out).1.symm]; exact (Kd.R_reads' HO198.out).2.1); rintro e w118 ⟨rfl, hb⟩; refine ⟨_, rfl, ?_⟩; replace HO179 := Aside0.mk (Kd.R_below (aR HO179) hb); replace HO182 := Aside0.mk (Kd.R_below (aR HO182) hb); replace HO185 := Aside0.mk (Kd.R_below (aR HO185) hb); replace HO190 := Aside0.mk (Kd.R_below (aR HO190) hb); replace HO194 := Aside0.mk (Kd.R_below (aR HO194) hb); replace HO198 := Aside0.mk (Kd.R_below (aR HO198) hb); replace HO204 := Aside0.mk (Kd.R_below (aR HO204) hb); replace HO208 := Aside0.mk (Kd.R_below (aR HO208) hb); replace BK173 := Aside0.mk (blk_below (g := gb173) (o := .cells #[.slice A0_0 l0_0.length c0_0] 29 (0, 0)) (kB BK173) hb); replace BK174 := Aside0.mk (blk_below (g := gb174) (o := .cells #[.slice A1_0 l1_0.length c1_0] 29 (0, 0)) (kB BK174) hb); replace BK187 := Aside0.mk (blk_below (g := gb187) (o := .cells #[.slice Ao67 t183.length co67] 32 (0, 0)) (kB BK187) hb); replace BK191 := Aside0.mk (blk_below (g := gb191) (o := .cells #[.slice Ao73 t188.length co73] 32 (0, 0)) (kB BK191) hb); replace BK195 := Aside0.mk (blk_below (g := gb195) (o := .cells #[.slice Ao82 t192.length co82] 32 (0, 0)) (kB BK195) hb); replace BK200 := Aside0.mk (blk_below (g := gb200) (o := .cells #[.slice Ao91 t196.length co91] 32 (0, 0)) (kB BK200) hb); replace HB := Aside0.mk (below_step (bB HB) hb); (try clear hb); (try clear hb2); (try clear hk); (try clear hi)))
               replace HO179 := Aside0.mk (Kd.R_drew HO179.out)
               replace HO182 := Aside0.mk (Kd.R_drew HO182.out)
               replace HO185 := Aside0.mk (Kd.R_drew HO185.out)
               replace HO190 := Aside0.mk (Kd.R_drew HO190.out)
               replace HO194 := Aside0.mk (Kd.R_drew HO194.out)
               replace HO198 := Aside0.mk (Kd.R_drew HO198.out)
               replace HO204 := Aside0.mk (Kd.R_drew HO204.out)
               replace HO208 := Aside0.mk (Kd.R_drew HO208.out)
               replace BK173 := Aside0.mk (blk_drew BK173.out)
               replace BK174 := Aside0.mk (blk_drew BK174.out)
               replace BK187 := Aside0.mk (blk_drew BK187.out)
               replace BK191 := Aside0.mk (blk_drew BK191.out)
               replace BK195 := Aside0.mk (blk_drew BK195.out)
               replace BK200 := Aside0.mk (blk_drew BK200.out)
               replace HB := Aside0.mk (below_drew1 HB.out)
               refine start_ (n := 11) (S := fun w' => w'.cell? ⟨gb173, 0, none⟩ = some (.slice A0_0 l0_0.length c0_0) ∧ w'.cell? ⟨gb174, 0, none⟩ = some (.slice A1_0 l1_0.length c1_0)) (ds := []) #[false, false, false, false, false, false, false, false, false, false, false] (by kernel_rfl) rfl rfl ⟨(blk_cell BK173.out 0).trans rfl, (blk_cell BK174.out 0).trans rfl⟩ (fun hHeld => ?_); refine with_tabW laws_FnExactMeetFilters.tab31 laws_FnExactMeetFilters.bits31 (fun HT_ HW_ => ?_)
               generalize w118.drew = w119 at HO179 HO182 HO185 HO190 HO194 HO198 HO204 HO208 BK173 BK174 BK187 BK191 BK195 BK200 HB hHeld ⊢
               refine take_ (i := 0) (N := some 95) (v := ?_) (a' := ?_) #[true, false, false, false, false, false, false, false, false, false, false] rfl rfl (take_ofW HT_.out HW_.out (by kernel_rfl)) (fun _ _ _ h => h) (Or.inl ⟨by rfl, ?_⟩) hHeld ?_ ?_
               rotate_left
               ·rintro w' ⟨s0, s1⟩
                go_simp
                with_reducible rfl
               rotate_left
               ·simp only [Act.put, List.setIfInBounds_toArray, List.set_cons_zero, List.set_cons_succ, i64_w, i32_w]
                rfl
               refine take_ (i := 2) (N := some 97) (v := ?_) (a' := ?_) #[true, false, true, false, false, false, false, false, false, false, false] rfl rfl (take_ofW HT_.out HW_.out (by kernel_rfl)) (fun _ _ _ h => h) (Or.inl ⟨by rfl, ?_⟩) hHeld ?_ ?_
               rotate_left
               ·rintro w' ⟨s0, s1⟩
                go_simp
                with_reducible rfl
               rotate_left
               ·simp only [Act.put, List.setIfInBounds_toArray, List.set_cons_zero, List.set_cons_succ, i64_w, i32_w]
                rfl
               refine join_ (σ := Value × Value × Value × Nat) 2 #[true, true, true, true, true, true, true, true, true, false, false] (fun s_ => [(96, .agg #[s_.1]), (98, .agg #[s_.2.1]), (99, .tuple #[.agg #[s_.2.2.1], .bool t227]), (15, .pointer (some ⟨s_.2.2.2, 0, none⟩)), (94, .tuple #[.agg #[s_.2.2.1], .bool t227]), (100, .agg #[s_.2.2.1]), (101, .bool t227)]) (fun s_ w' => (w'.cell? ⟨gb173, 0, none⟩ = some (.slice A0_0 l0_0.length c0_0) ∧ w'.cell? ⟨gb174, 0, none⟩ = some (.slice A1_0 l1_0.length c1_0)) ∧ (Kd.R Kd.bool 4 w' w.heap.size (fun k_ => some k_ ≠ (v181 : Value).ownBlock ∧ some k_ ≠ (.slice Ao67 t183.length co67 : Value).ownBlock ∧ some k_ ≠ (.slice Ao73 t188.length co73 : Value).ownBlock ∧ some k_ ≠ (.slice Ao82 t192.length co82 : Value).ownBlock ∧ some k_ ≠ (.slice Ao91 t196.length co91 : Value).ownBlock ∧ some k_ ≠ (.slice Ao102 t202.length co102 : Value).ownBlock ∧ some k_ ≠ (.slice Ao106 t206.length co106 : Value).ownBlock ∧ some k_ ≠ (s_.1 : Value).ownBlock ∧ some k_ ≠ (s_.2.1 : Value).ownBlock ∧ some k_ ≠ (s_.2.2.1 : Value).ownBlock) v178 t177) ∧ (Kd.R Kd.bool 4 w' w.heap.size (fun k_ => some k_ ≠ (v178 : Value).ownBlock ∧ some k_ ≠ (.slice Ao67 t183.length co67 : Value).ownBlock ∧ some k_ ≠ (.slice Ao73 t188.length co73 : Value).ownBlock ∧ some k_ ≠ (.slice Ao82 t192.length co82 : Value).ownBlock ∧ some k_ ≠ (.slice Ao91 t196.length co91 : Value).ownBlock ∧ some k_ ≠ (.slice Ao102 t202.length co102 : Value).ownBlock ∧ some k_ ≠ (.slice Ao106 t206.length co106 : Value).ownBlock ∧ some k_ ≠ (s_.1 : Value).ownBlock ∧ some k_ ≠ (s_.2.1 : Value).ownBlock ∧ some k_ ≠ (s_.2.2.1 : Value).ownBlock) v181 t180) ∧ (Kd.R Kd.bool 4 w' w.heap.size (fun k_ => some k_ ≠ (v178 : Value).ownBlock ∧ some k_ ≠ (v181 : Value).ownBlock ∧ some k_ ≠ (.slice Ao73 t188.length co73 : Value).ownBlock ∧ some k_ ≠ (.slice Ao82 t192.length co82 : Value).ownBlock ∧ some k_ ≠ (.slice Ao91 t196.length co91 : Value).ownBlock ∧ some k_ ≠ (.slice Ao102 t202.length co102 : Value).ownBlock ∧ some k_ ≠ (.slice Ao106 t206.length co106 : Value).ownBlock ∧ some k_ ≠ (s_.1 : Value).ownBlock ∧ some k_ ≠ (s_.2.1 : Value).ownBlock ∧ some k_ ≠ (s_.2.2.1 : Value).ownBlock) (.slice Ao67 t183.length co67) t183) ∧ (Kd.R Kd.bool 4 w' w.heap.size (fun k_ => some k_ ≠ (v178 : Value).ownBlock ∧ some k_ ≠ (v181 : Value).ownBlock ∧ some k_ ≠ (.slice Ao67 t183.length co67 : Value).ownBlock ∧ some k_ ≠ (.slice Ao82 t192.length co82 : Value).ownBlock ∧ some k_ ≠ (.slice Ao91 t196.length co91 : Value).ownBlock ∧ some k_ ≠ (.slice Ao102 t202.length co102 : Value).ownBlock ∧ some k_ ≠ (.slice Ao106 t206.length co106 : Value).ownBlock ∧ some k_ ≠ (s_.1 : Value).ownBlock ∧ some k_ ≠ (s_.2.1 : Value).ownBlock ∧ some k_ ≠ (s_.2.2.1 : Value).ownBlock) (.slice Ao73 t188.length co73) t211) ∧ (Kd.R Kd.bool 4 w' w.heap.size (fun k_ => some k_ ≠ (v178 : Value).ownBlock ∧ some k_ ≠ (v181 : Value).ownBlock ∧ some k_ ≠ (.slice Ao67 t183.length co67 : Value).ownBlock ∧ some k_ ≠ (.slice Ao73 t188.length co73 : Value).ownBlock ∧ some k_ ≠ (.slice Ao91 t196.length co91 : Value).ownBlock ∧ some k_ ≠ (.slice Ao102 t202.length co102 : Value).ownBlock ∧ some k_ ≠ (.slice Ao106 t206.length co106 : Value).ownBlock ∧ some k_ ≠ (s_.1 : Value).ownBlock ∧ some k_ ≠ (s_.2.1 : Value).ownBlock ∧ some k_ ≠ (s_.2.2.1 : Value).ownBlock) (.slice Ao82 t192.length co82) t213) ∧ (Kd.R Kd.bool 4 w' w.heap.size (fun k_ => some k_ ≠ (v178 : Value).ownBlock ∧ some k_ ≠ (v181 : Value).ownBlock ∧ some k_ ≠ (.slice Ao67 t183.length co67 : Value).ownBlock ∧ some k_ ≠ (.slice Ao73 t188.length co73 : Value).ownBlock ∧ some k_ ≠ (.slice Ao82 t192.length co82 : Value).ownBlock ∧ some k_ ≠ (.slice Ao102 t202.length co102 : Value).ownBlock ∧ some k_ ≠ (.slice Ao106 t206.length co106 : Value).ownBlock ∧ some k_ ≠ (s_.1 : Value).ownBlock ∧ some k_ ≠ (s_.2.1 : Value).ownBlock ∧ some k_ ≠ (s_.2.2.1 : Value).ownBlock) (.slice Ao91 t196.length co91) t216) ∧ (Kd.R Kd.bool 4 w' w.heap.size (fun k_ => some k_ ≠ (v178 : Value).ownBlock ∧ some k_ ≠ (v181 : Value).ownBlock ∧ some k_ ≠ (.slice Ao67 t183.length co67 : Value).ownBlock ∧ some k_ ≠ (.slice Ao73 t188.length co73 : Value).ownBlock ∧ some k_ ≠ (.slice Ao82 t192.length co82 : Value).ownBlock ∧ some k_ ≠ (.slice Ao91 t196.length co91 : Value).ownBlock ∧ some k_ ≠ (.slice Ao106 t206.length co106 : Value).ownBlock ∧ some k_ ≠ (s_.1 : Value).ownBlock ∧ some k_ ≠ (s_.2.1 : Value).ownBlock ∧ some k_ ≠ (s_.2.2.1 : Value).ownBlock) (.slice Ao102 t202.length co102) t202) ∧ (Kd.R Kd.bool 4 w' w.heap.size (fun k_ => some k_ ≠ (v178 : Value).ownBlock ∧ some k_ ≠ (v181 : Value).ownBlock ∧ some k_ ≠ (.slice Ao67 t183.length co67 : Value).ownBlock ∧ some k_ ≠ (.slice Ao73 t188.length co73 : Value).ownBlock ∧ some k_ ≠ (.slice Ao82 t192.length co82 : Value).ownBlock ∧ some k_ ≠ (.slice Ao91 t196.length co91 : Value).ownBlock ∧ some k_ ≠ (.slice Ao102 t202.length co102 : Value).ownBlock ∧ some k_ ≠ (s_.1 : Value).ownBlock ∧ some k_ ≠ (s_.2.1 : Value).ownBlock ∧ some k_ ≠ (s_.2.2.1 : Value).ownBlock) (.slice Ao106 t206.length co106) t206) ∧ (Kd.R Kd.bool 4 w' w.heap.size (fun k_ => some k_ ≠ (v178 : Value).ownBlock ∧ some k_ ≠ (v181 : Value).ownBlock ∧ some k_ ≠ (.slice Ao67 t183.length co67 : Value).ownBlock ∧ some k_ ≠ (.slice Ao73 t188.length co73 : Value).ownBlock ∧ some k_ ≠ (.slice Ao82 t192.length co82 : Value).ownBlock ∧ some k_ ≠ (.slice Ao91 t196.length co91 : Value).ownBlock ∧ some k_ ≠ (.slice Ao102 t202.length co102 : Value).ownBlock ∧ some k_ ≠ (.slice Ao106 t206.length co106 : Value).ownBlock ∧ some k_ ≠ (s_.2.1 : Value).ownBlock ∧ some k_ ≠ (s_.2.2.1 : Value).ownBlock) s_.1 t218) ∧ (Kd.R Kd.bool 4 w' w.heap.size (fun k_ => some k_ ≠ (v178 : Value).ownBlock ∧ some k_ ≠ (v181 : Value).ownBlock ∧ some k_ ≠ (.slice Ao67 t183.length co67 : Value).ownBlock ∧ some k_ ≠ (.slice Ao73 t188.length co73 : Value).ownBlock ∧ some k_ ≠ (.slice Ao82 t192.length co82 : Value).ownBlock ∧ some k_ ≠ (.slice Ao91 t196.length co91 : Value).ownBlock ∧ some k_ ≠ (.slice Ao102 t202.length co102 : Value).ownBlock ∧ some k_ ≠ (.slice Ao106 t206.length co106 : Value).ownBlock ∧ some k_ ≠ (s_.1 : Value).ownBlock ∧ some k_ ≠ (s_.2.2.1 : Value).ownBlock) s_.2.1 t221) ∧ (Kd.R Kd.bool 4 w' w.heap.size (fun k_ => some k_ ≠ (v178 : Value).ownBlock ∧ some k_ ≠ (v181 : Value).ownBlock ∧ some k_ ≠ (.slice Ao67 t183.length co67 : Value).ownBlock ∧ some k_ ≠ (.slice Ao73 t188.length co73 : Value).ownBlock ∧ some k_ ≠ (.slice Ao82 t192.length co82 : Value).ownBlock ∧ some k_ ≠ (.slice Ao91 t196.length co91 : Value).ownBlock ∧ some k_ ≠ (.slice Ao102 t202.length co102 : Value).ownBlock ∧ some k_ ≠ (.slice Ao106 t206.length co106 : Value).ownBlock ∧ some k_ ≠ (s_.1 : Value).ownBlock ∧ some k_ ≠ (s_.2.1 : Value).ownBlock) s_.2.2.1 t224) ∧ (w'.heap[gb173]? = some (.cells #[.slice A0_0 l0_0.length c0_0] 29 (0, 0))) ∧ (w'.heap[gb174]? = some (.cells #[.slice A1_0 l1_0.length c1_0] 29 (0, 0))) ∧ (w'.heap[gb187]? = some (.cells #[.slice Ao67 t183.length co67] 32 (0, 0))) ∧ (w'.heap[gb191]? = some (.cells #[.slice Ao73 t188.length co73] 32 (0, 0))) ∧ (w'.heap[gb195]? = some (.cells #[.slice Ao82 t192.length co82] 32 (0, 0))) ∧ (w'.heap[gb200]? = some (.cells #[.slice Ao91 t196.length co91] 32 (0, 0))) ∧ (w'.heap[s_.2.2.2]? = some (.cells #[.slice none 0 0] 32 (0, 0))) ∧ (w.heap.size ≤ s_.2.2.2) ∧ (w.heap.size ≤ s_.2.2.2) ∧ (gb173 ≠ s_.2.2.2) ∧ (s_.2.2.2 ≠ gb173) ∧ (gb174 ≠ s_.2.2.2) ∧ (s_.2.2.2 ≠ gb174) ∧ (gb187 ≠ s_.2.2.2) ∧ (s_.2.2.2 ≠ gb187) ∧ (gb191 ≠ s_.2.2.2) ∧ (s_.2.2.2 ≠ gb191) ∧ (gb195 ≠ s_.2.2.2) ∧ (s_.2.2.2 ≠ gb195) ∧ (gb200 ≠ s_.2.2.2) ∧ (s_.2.2.2 ≠ gb200) ∧ (Below w.heap.size w w')) ?_ ?_
               rotate_left
               ·intro hCont
                refine two_ (i := 1) (j := 8) (Ni := some 96) (Nj := some 15) #[true, true, true, false, false, false, false, false, false, false, false] #[true, false, true, false, false, false, false, false, true, false, false] rfl rfl rfl rfl (two_of HT_.out (by kernel_rfl)) (by decide) (by decide) (fun K hK => ?_) (fun K hK => ?_)
                ·skip
                 refine goes_ Try.func17 (by kernel_rfl) rfl #[.agg #[.slice A0_0 l0_0.length c0_0]] (by rfl) rfl rfl (by (try simp only [List.map_toArray, List.map_cons, List.map_nil]); first | done | rfl | (simp only [List.length_drop, List.length_take]; rfl)) ?_
                 with_reducible refine (laws_toFilter.calls k _ _ l0_0 t218 _ ?side1 ?side2 A43.out).mono ?_
                 (case side1 => repeat (first | exact (Kd.C_below HR0_0.out HB.out) | (with_reducible refine Kd.C_alloc ?_ _) | (with_reducible refine Kd.C_drewN ?_ _) | (with_reducible refine Kd.C_drew ?_)))
                 (case side2 => exact HC0_0.out)
                 rintro e w120 ⟨v219, rfl, ho0, hb⟩
                 refine ⟨_, rfl, ?_⟩
                 have HO220 := Aside0.mk (Kd.R_lower (Kd.R_new' (Kd.R_new' (Kd.R_new' (Kd.R_new' (Kd.R_new' (Kd.R_new' (Kd.R_new' (Kd.R_new' ho0 (Kd.R_lt (aR HO179))) (Kd.R_lt (aR HO182))) (Kd.R_lt (aR HO185))) (Kd.R_lt (aR HO190))) (Kd.R_lt (aR HO194))) (Kd.R_lt (aR HO198))) (Kd.R_lt (aR HO204))) (Kd.R_lt (aR HO208))) (below_size (bB HB)))
                 replace HO179 := Aside0.mk (Kd.R_elder' (aR HO179) (Kd.R_base ho0) hb)
                 replace HO182 := Aside0.mk (Kd.R_elder' (aR HO182) (Kd.R_base ho0) hb)
                 replace HO185 := Aside0.mk (Kd.R_elder' (aR HO185) (Kd.R_base ho0) hb)
                 replace HO190 := Aside0.mk (Kd.R_elder' (aR HO190) (Kd.R_base ho0) hb)
                 replace HO194 := Aside0.mk (Kd.R_elder' (aR HO194) (Kd.R_base ho0) hb)
                 replace HO198 := Aside0.mk (Kd.R_elder' (aR HO198) (Kd.R_base ho0) hb)
                 replace HO204 := Aside0.mk (Kd.R_elder' (aR HO204) (Kd.R_base ho0) hb)
                 replace HO208 := Aside0.mk (Kd.R_elder' (aR HO208) (Kd.R_base ho0) hb)
                 replace BK173 := Aside0.mk (blk_below (g := gb173) (o := .cells #[.slice A0_0 l0_0.length c0_0] 29 (0, 0)) (kB BK173) hb)
                 replace BK174 := Aside0.mk (blk_below (g := gb174) (o := .cells #[.slice A1_0 l1_0.length c1_0] 29 (0, 0)) (kB BK174) hb)
                 replace BK187 := Aside0.mk (blk_below (g := gb187) (o := .cells #[.slice Ao67 t183.length co67] 32 (0, 0)) (kB BK187) hb)
                 replace BK191 := Aside0.mk (blk_below (g := gb191) (o := .cells #[.slice Ao73 t188.length co73] 32 (0, 0)) (kB BK191) hb)
                 replace BK195 := Aside0.mk (blk_below (g := gb195) (o := .cells #[.slice Ao82 t192.length co82] 32 (0, 0)) (kB BK195) hb)
                 replace BK200 := Aside0.mk (blk_below (g := gb200) (o := .cells #[.slice Ao91 t196.length co91] 32 (0, 0)) (kB BK200) hb)
                 replace HB := Aside0.mk (below_step (bB HB) hb)
                 (try clear hb);(try clear hb2);(try clear hk);(try clear hi);(try clear ho0)
                 refine hK.out _ _ ⟨(blk_cell BK173.out 0).trans rfl, (blk_cell BK174.out 0).trans rfl⟩ (fun hHeld => ?_)
                 clear hK K
                 refine norm_ (a' := ?_) ?_ ?_
                 rotate_left
                 ·show Act.put _ (some 96) _ = _
                  simp only [Act.put, List.setIfInBounds_toArray, List.set_cons_zero, List.set_cons_succ, i64_w, i32_w]
                  rfl
                 refine two_ (i := 3) (j := 8) (Ni := some 98) (Nj := some 15) #[true, true, true, true, false, false, false, false, false, false, false] #[true, true, true, false, false, false, false, false, true, false, false] rfl rfl rfl rfl (two_of HT_.out (by kernel_rfl)) (by decide) (by decide) (fun K hK => ?_) (fun K hK => ?_)
                 ·skip
                  refine goes_ Try.func17 (by kernel_rfl) rfl #[.agg #[.slice A1_0 l1_0.length c1_0]] (by rfl) rfl rfl (by (try simp only [List.map_toArray, List.map_cons, List.map_nil]); first | done | rfl | (simp only [List.length_drop, List.length_take]; rfl)) ?_
                  with_reducible refine (laws_toFilter.calls k _ _ l1_0 t221 _ ?side1 ?side2 A44.out).mono ?_
                  (case side1 => repeat (first | exact (Kd.C_below HR1_0.out HB.out) | (with_reducible refine Kd.C_alloc ?_ _) | (with_reducible refine Kd.C_drewN ?_ _) | (with_reducible refine Kd.C_drew ?_)))
                  (case side2 => exact HC1_0.out)
                  rintro e w121 ⟨v222, rfl, ho0, hb⟩
                  refine ⟨_, rfl, ?_⟩
                  have HO223 := Aside0.mk (Kd.R_lower (Kd.R_new' (Kd.R_new' (Kd.R_new' (Kd.R_new' (Kd.R_new' (Kd.R_new' (Kd.R_new' (Kd.R_new' (Kd.R_new' ho0 (Kd.R_lt (aR HO179))) (Kd.R_lt (aR HO182))) (Kd.R_lt (aR HO185))) (Kd.R_lt (aR HO190))) (Kd.R_lt (aR HO194))) (Kd.R_lt (aR HO198))) (Kd.R_lt (aR HO204))) (Kd.R_lt (aR HO208))) (Kd.R_lt (aR HO220))) (below_size (bB HB)))
                  replace HO179 := Aside0.mk (Kd.R_elder' (aR HO179) (Kd.R_base ho0) hb)
                  replace HO182 := Aside0.mk (Kd.R_elder' (aR HO182) (Kd.R_base ho0) hb)
                  replace HO185 := Aside0.mk (Kd.R_elder' (aR HO185) (Kd.R_base ho0) hb)
                  replace HO190 := Aside0.mk (Kd.R_elder' (aR HO190) (Kd.R_base ho0) hb)
                  replace HO194 := Aside0.mk (Kd.R_elder' (aR HO194) (Kd.R_base ho0) hb)
                  replace HO198 := Aside0.mk (Kd.R_elder' (aR HO198) (Kd.R_base ho0) hb)
                  replace HO204 := Aside0.mk (Kd.R_elder' (aR HO204) (Kd.R_base ho0) hb)
                  replace HO208 := Aside0.mk (Kd.R_elder' (aR HO208) (Kd.R_base ho0) hb)
                  replace HO220 := Aside0.mk (Kd.R_elder' (aR HO220) (Kd.R_base ho0) hb)
                  replace BK173 := Aside0.mk (blk_below (g := gb173) (o := .cells #[.slice A0_0 l0_0.length c0_0] 29 (0, 0)) (kB BK173) hb)
                  replace BK174 := Aside0.mk (blk_below (g := gb174) (o := .cells #[.slice A1_0 l1_0.length c1_0] 29 (0, 0)) (kB BK174) hb)
                  replace BK187 := Aside0.mk (blk_below (g := gb187) (o := .cells #[.slice Ao67 t183.length co67] 32 (0, 0)) (kB BK187) hb)
                  replace BK191 := Aside0.mk (blk_below (g := gb191) (o := .cells #[.slice Ao73 t188.length co73] 32 (0, 0)) (kB BK191) hb)
                  replace BK195 := Aside0.mk (blk_below (g := gb195) (o := .cells #[.slice Ao82 t192.length co82] 32 (0, 0)) (kB BK195) hb)
                  replace BK200 := Aside0.mk (blk_below (g := gb200) (o := .cells #[.slice Ao91 t196.length co91] 32 (0, 0)) (kB BK200) hb)
                  replace HB := Aside0.mk (below_step (bB HB) hb)
                  (try clear hb);(try clear hb2);(try clear hk);(try clear hi);(try clear ho0)
                  obtain ⟨Ao122, co122, eo122⟩ := Kd.R_slice HO220.out
                  (first | subst eo122 | (injection eo122 with f1_ f2_ f3_; have f4_ := f1_.symm; have f5_ := f3_.symm; clear f1_ f2_ f3_; subst f4_; subst f5_))
                  obtain ⟨Ao123, co123, eo123⟩ := Kd.R_slice HO223.out
                  (first | subst eo123 | (injection eo123 with f1_ f2_ f3_; have f4_ := f1_.symm; have f5_ := f3_.symm; clear f1_ f2_ f3_; subst f4_; subst f5_))
                  refine hK.out _ _ ⟨(blk_cell BK173.out 0).trans rfl, (blk_cell BK174.out 0).trans rfl⟩ (fun hHeld => ?_)
                  clear hK K
                  refine norm_ (a' := ?_) ?_ ?_
                  rotate_left
                  ·show Act.put _ (some 98) _ = _
                   simp only [Act.put, List.setIfInBounds_toArray, List.set_cons_zero, List.set_cons_succ, i64_w, i32_w]
                   rfl
                  refine two_ (i := 4) (j := 8) (Ni := some 99) (Nj := some 15) #[true, true, true, true, true, false, false, false, false, false, false] #[true, true, true, true, false, false, false, false, true, false, false] rfl rfl rfl rfl (two_of HT_.out (by kernel_rfl)) (by decide) (by decide) (fun K hK => ?_) (fun K hK => ?_)
                  ·skip
                   refine goes_ Try.func25 (by kernel_rfl) rfl #[.agg #[.slice Ao122 t218.length co122], .agg #[.slice Ao123 t221.length co123]] (by rfl) rfl rfl (by (try simp only [List.map_toArray, List.map_cons, List.map_nil]); first | done | rfl | (simp only [List.length_drop, List.length_take]; rfl)) ?_
                   with_reducible refine (impl_MeetFilters.calls k _ _ t218 _ _ t221 t224 t227 _ ?side1 ?side2 ?side3 ?side4 A45.out).mono ?_
                   (case side1 => repeat (first | exact (Kd.R_reads' HO220.out).2.2 | (with_reducible refine Kd.C_alloc ?_ _) | (with_reducible refine Kd.C_drewN ?_ _) | (with_reducible refine Kd.C_drew ?_)))
                   (case side2 => exact (Kd.R_reads' HO220.out).2.1)
                   (case side3 => repeat (first | exact (Kd.R_reads' HO223.out).2.2 | (with_reducible refine Kd.C_alloc ?_ _) | (with_reducible refine Kd.C_drewN ?_ _) | (with_reducible refine Kd.C_drew ?_)))
                   (case side4 => exact (Kd.R_reads' HO223.out).2.1)
                   rintro e w124 ⟨v225, rfl, ho0, hb⟩
                   refine ⟨_, rfl, ?_⟩
                   have HO226 := Aside0.mk (Kd.R_lower (Kd.R_new' (Kd.R_new' (Kd.R_new' (Kd.R_new' (Kd.R_new' (Kd.R_new' (Kd.R_new' (Kd.R_new' (Kd.R_new' (Kd.R_new' ho0 (Kd.R_lt (aR HO179))) (Kd.R_lt (aR HO182))) (Kd.R_lt (aR HO185))) (Kd.R_lt (aR HO190))) (Kd.R_lt (aR HO194))) (Kd.R_lt (aR HO198))) (Kd.R_lt (aR HO204))) (Kd.R_lt (aR HO208))) (Kd.R_lt (aR HO220))) (Kd.R_lt (aR HO223))) (below_size (bB HB)))
                   replace HO179 := Aside0.mk (Kd.R_elder' (aR HO179) (Kd.R_base ho0) hb)
                   replace HO182 := Aside0.mk (Kd.R_elder' (aR HO182) (Kd.R_base ho0) hb)
                   replace HO185 := Aside0.mk (Kd.R_elder' (aR HO185) (Kd.R_base ho0) hb)
                   replace HO190 := Aside0.mk (Kd.R_elder' (aR HO190) (Kd.R_base ho0) hb)
                   replace HO194 := Aside0.mk (Kd.R_elder' (aR HO194) (Kd.R_base ho0) hb)
                   replace HO198 := Aside0.mk (Kd.R_elder' (aR HO198) (Kd.R_base ho0) hb)
                   replace HO204 := Aside0.mk (Kd.R_elder' (aR HO204) (Kd.R_base ho0) hb)
                   replace HO208 := Aside0.mk (Kd.R_elder' (aR HO208) (Kd.R_base ho0) hb)
                   replace HO220 := Aside0.mk (Kd.R_elder' (aR HO220) (Kd.R_base ho0) hb)
                   replace HO223 := Aside0.mk (Kd.R_elder' (aR HO223) (Kd.R_base ho0) hb)
                   replace BK173 := Aside0.mk (blk_below (g := gb173) (o := .cells #[.slice A0_0 l0_0.length c0_0] 29 (0, 0)) (kB BK173) hb)
                   replace BK174 := Aside0.mk (blk_below (g := gb174) (o := .cells #[.slice A1_0 l1_0.length c1_0] 29 (0, 0)) (kB BK174) hb)
                   replace BK187 := Aside0.mk (blk_below (g := gb187) (o := .cells #[.slice Ao67 t183.length co67] 32 (0, 0)) (kB BK187) hb)
                   replace BK191 := Aside0.mk (blk_below (g := gb191) (o := .cells #[.slice Ao73 t188.length co73] 32 (0, 0)) (kB BK191) hb)
                   replace BK195 := Aside0.mk (blk_below (g := gb195) (o := .cells #[.slice Ao82 t192.length co82] 32 (0, 0)) (kB BK195) hb)
                   replace BK200 := Aside0.mk (blk_below (g := gb200) (o := .cells #[.slice Ao91 t196.length co91] 32 (0, 0)) (kB BK200) hb)
                   replace HB := Aside0.mk (below_step (bB HB) hb)
                   (try clear hb);(try clear hb2);(try clear hk);(try clear hi);(try clear ho0)
                   refine hK.out _ _ ⟨(blk_cell BK173.out 0).trans rfl, (blk_cell BK174.out 0).trans rfl⟩ (fun hHeld => ?_)
                   clear hK K
                   refine norm_ (a' := ?_) ?_ ?_
                   rotate_left
                   ·show Act.put _ (some 99) _ = _
                    simp only [Act.put, List.setIfInBounds_toArray, List.set_cons_zero, List.set_cons_succ, i64_w, i32_w]
                    rfl
                   refine pure_ (i := 5) (N := some 94) (v := ?_) (a' := ?_) #[true, true, true, true, true, true, false, false, false, false, false] rfl rfl (any_of HT_.out (by kernel_rfl)) (fun _ _ _ h => h) (Or.inl ⟨by rfl, ?_⟩) ?_ ?_
                   rotate_left
                   ·intro w'
                    go_simp
                    with_reducible rfl
                   rotate_left
                   ·simp only [Act.put, List.setIfInBounds_toArray, List.set_cons_zero, List.set_cons_succ, i64_w, i32_w]
                    rfl
                   refine pure_ (i := 6) (N := some 100) (v := ?_) (a' := ?_) #[true, true, true, true, true, true, true, false, false, false, false] rfl rfl (any_of HT_.out (by kernel_rfl)) (fun _ _ _ h => h) (Or.inl ⟨by rfl, ?_⟩) ?_ ?_
                   rotate_left
                   ·intro w'
                    go_simp
                    with_reducible rfl
                   rotate_left
                   ·simp only [Act.put, List.setIfInBounds_toArray, List.set_cons_zero, List.set_cons_succ, i64_w, i32_w]
                    rfl
                   refine pure_ (i := 7) (N := some 101) (v := ?_) (a' := ?_) #[true, true, true, true, true, true, true, true, false, false, false] rfl rfl (any_of HT_.out (by kernel_rfl)) (fun _ _ _ h => h) (Or.inl ⟨by rfl, ?_⟩) ?_ ?_
                   rotate_left
                   ·intro w'
                    go_simp
                    with_reducible rfl
                   rotate_left
                   ·simp only [Act.put, List.setIfInBounds_toArray, List.set_cons_zero, List.set_cons_succ, i64_w, i32_w]
                    rfl
                   refine one_ (i := 8) (N := some 15) #[true, true, true, true, true, true, true, true, true, false, false] rfl rfl (one_of HT_.out (by kernel_rfl)) (by decide) (fun K hK => ?_)
                   refine box_step ?hg (N := 15) ?hd (cs := #[.slice none 0 0]) (t := 32) ?hr ?_; (case hd => rfl); (case hg => rfl); (case hr => first | (go_simp; done) | (go_simp; rfl))
                   intro gb228 hg w125 hbox hb
                   replace HO179 := Aside0.mk (Kd.R_below (aR HO179) hb)
                   replace HO182 := Aside0.mk (Kd.R_below (aR HO182) hb)
                   replace HO185 := Aside0.mk (Kd.R_below (aR HO185) hb)
                   replace HO190 := Aside0.mk (Kd.R_below (aR HO190) hb)
                   replace HO194 := Aside0.mk (Kd.R_below (aR HO194) hb)
                   replace HO198 := Aside0.mk (Kd.R_below (aR HO198) hb)
                   replace HO204 := Aside0.mk (Kd.R_below (aR HO204) hb)
                   replace HO208 := Aside0.mk (Kd.R_below (aR HO208) hb)
                   replace HO220 := Aside0.mk (Kd.R_below (aR HO220) hb)
                   replace HO223 := Aside0.mk (Kd.R_below (aR HO223) hb)
                   replace HO226 := Aside0.mk (Kd.R_below (aR HO226) hb)
                   have BK228 := Aside0.mk (hbox)
                   have GW228 := Aside0.mk ((by rw [hg]; exact (below_size (bB HB)) : w.heap.size ≤ gb228))
                   have GE228 := Aside0.mk ((by rw [hg]; exact (below_size (bB HB)) : w.heap.size ≤ gb228))
                   replace HB := Aside0.mk (below_step (bB HB) hb)
                   have NB173_228 := Aside0.mk ((by rw [hg]; exact Nat.ne_of_lt (blk_lt (g := gb173) (o := .cells #[.slice A0_0 l0_0.length c0_0] 29 (0, 0)) (kB BK173)) : gb173 ≠ gb228))
                   have NB228_173 := Aside0.mk ((by rw [hg]; exact Nat.ne_of_gt (blk_lt (g := gb173) (o := .cells #[.slice A0_0 l0_0.length c0_0] 29 (0, 0)) (kB BK173)) : gb228 ≠ gb173))
                   replace BK173 := Aside0.mk (blk_below (g := gb173) (o := .cells #[.slice A0_0 l0_0.length c0_0] 29 (0, 0)) (kB BK173) hb)
                   have NB174_228 := Aside0.mk ((by rw [hg]; exact Nat.ne_of_lt (blk_lt (g := gb174) (o := .cells #[.slice A1_0 l1_0.length c1_0] 29 (0, 0)) (kB BK174)) : gb174 ≠ gb228))
                   have NB228_174 := Aside0.mk ((by rw [hg]; exact Nat.ne_of_gt (blk_lt (g := gb174) (o := .cells #[.slice A1_0 l1_0.length c1_0] 29 (0, 0)) (kB BK174)) : gb228 ≠ gb174))
                   replace BK174 := Aside0.mk (blk_below (g := gb174) (o := .cells #[.slice A1_0 l1_0.length c1_0] 29 (0, 0)) (kB BK174) hb)
                   have NB187_228 := Aside0.mk ((by rw [hg]; exact Nat.ne_of_lt (blk_lt (g := gb187) (o := .cells #[.slice Ao67 t183.length co67] 32 (0, 0)) (kB BK187)) : gb187 ≠ gb228))
                   have NB228_187 := Aside0.mk ((by rw [hg]; exact Nat.ne_of_gt (blk_lt (g := gb187) (o := .cells #[.slice Ao67 t183.length co67] 32 (0, 0)) (kB BK187)) : gb228 ≠ gb187))
                   replace BK187 := Aside0.mk (blk_below (g := gb187) (o := .cells #[.slice Ao67 t183.length co67] 32 (0, 0)) (kB BK187) hb)
                   have NB191_228 := Aside0.mk ((by rw [hg]; exact Nat.ne_of_lt (blk_lt (g := gb191) (o := .cells #[.slice Ao73 t188.length co73] 32 (0, 0)) (kB BK191)) : gb191 ≠ gb228))
                   have NB228_191 := Aside0.mk ((by rw [hg]; exact Nat.ne_of_gt (blk_lt (g := gb191) (o := .cells #[.slice Ao73 t188.length co73] 32 (0, 0)) (kB BK191)) : gb228 ≠ gb191))
                   replace BK191 := Aside0.mk (blk_below (g := gb191) (o := .cells #[.slice Ao73 t188.length co73] 32 (0, 0)) (kB BK191) hb)
                   have NB195_228 := Aside0.mk ((by rw [hg]; exact Nat.ne_of_lt (blk_lt (g := gb195) (o := .cells #[.slice Ao82 t192.length co82] 32 (0, 0)) (kB BK195)) : gb195 ≠ gb228))
                   have NB228_195 := Aside0.mk ((by rw [hg]; exact Nat.ne_of_gt (blk_lt (g := gb195) (o := .cells #[.slice Ao82 t192.length co82] 32 (0, 0)) (kB BK195)) : gb228 ≠ gb195))
                   replace BK195 := Aside0.mk (blk_below (g := gb195) (o := .cells #[.slice Ao82 t192.length co82] 32 (0, 0)) (kB BK195) hb)
                   have NB200_228 := Aside0.mk ((by rw [hg]; exact Nat.ne_of_lt (blk_lt (g := gb200) (o := .cells #[.slice Ao91 t196.length co91] 32 (0, 0)) (kB BK200)) : gb200 ≠ gb228))
                   have NB228_200 := Aside0.mk ((by rw [hg]; exact Nat.ne_of_gt (blk_lt (g := gb200) (o := .cells #[.slice Ao91 t196.length co91] 32 (0, 0)) (kB BK200)) : gb228 ≠ gb200))
                   replace BK200 := Aside0.mk (blk_below (g := gb200) (o := .cells #[.slice Ao91 t196.length co91] 32 (0, 0)) (kB BK200) hb)
                   clear hb hbox hg
                   refine hK.out _ _ ⟨(blk_cell BK173.out 0).trans rfl, (blk_cell BK174.out 0).trans rfl⟩ (fun hHeld => ?_)
                   clear hK K
                   refine norm_ (a' := ?_) ?_ ?_
                   rotate_left
                   ·show Act.put _ (some 15) _ = _
                    simp only [Act.put, List.setIfInBounds_toArray, List.set_cons_zero, List.set_cons_succ, i64_w, i32_w]
                    rfl
                   exact norm_ (by simp only [putAll, Act.put, List.setIfInBounds_toArray, List.set_cons_zero, List.set_cons_succ]) (hCont (.slice Ao122 t218.length co122, .slice Ao123 t221.length co123, v225, gb228) _ ⟨hHeld, (by (with_reducible repeat (first | apply Kd.R_alloc | apply Kd.R_drewN | apply Kd.R_drew)); exact Kd.R_mono HO179.out (fun _ hk => ⟨hk.1.1.1.1, ⟨hk.1.1.1.2.1, ⟨hk.1.1.1.2.2.1, ⟨hk.1.1.1.2.2.2.1, ⟨hk.1.1.1.2.2.2.2.1, ⟨hk.1.1.1.2.2.2.2.2.1, ⟨hk.1.1.1.2.2.2.2.2.2, ⟨hk.1.1.2, ⟨hk.1.2, hk.2⟩⟩⟩⟩⟩⟩⟩⟩⟩)), (by (with_reducible repeat (first | apply Kd.R_alloc | apply Kd.R_drewN | apply Kd.R_drew)); exact Kd.R_mono HO182.out (fun _ hk => ⟨hk.1.1.1.1, ⟨hk.1.1.1.2.1, ⟨hk.1.1.1.2.2.1, ⟨hk.1.1.1.2.2.2.1, ⟨hk.1.1.1.2.2.2.2.1, ⟨hk.1.1.1.2.2.2.2.2.1, ⟨hk.1.1.1.2.2.2.2.2.2, ⟨hk.1.1.2, ⟨hk.1.2, hk.2⟩⟩⟩⟩⟩⟩⟩⟩⟩)), (by (with_reducible repeat (first | apply Kd.R_alloc | apply Kd.R_drewN | apply Kd.R_drew)); exact Kd.R_mono HO185.out (fun _ hk => ⟨hk.1.1.1.1, ⟨hk.1.1.1.2.1, ⟨hk.1.1.1.2.2.1, ⟨hk.1.1.1.2.2.2.1, ⟨hk.1.1.1.2.2.2.2.1, ⟨hk.1.1.1.2.2.2.2.2.1, ⟨hk.1.1.1.2.2.2.2.2.2, ⟨hk.1.1.2, ⟨hk.1.2, hk.2⟩⟩⟩⟩⟩⟩⟩⟩⟩)), (by (with_reducible repeat (first | apply Kd.R_alloc | apply Kd.R_drewN | apply Kd.R_drew)); exact Kd.R_mono HO190.out (fun _ hk => ⟨hk.1.1.1.1, ⟨hk.1.1.1.2.1, ⟨hk.1.1.1.2.2.1, ⟨hk.1.1.1.2.2.2.1, ⟨hk.1.1.1.2.2.2.2.1, ⟨hk.1.1.1.2.2.2.2.2.1, ⟨hk.1.1.1.2.2.2.2.2.2, ⟨hk.1.1.2, ⟨hk.1.2, hk.2⟩⟩⟩⟩⟩⟩⟩⟩⟩)), (by (with_reducible repeat (first | apply Kd.R_alloc | apply Kd.R_drewN | apply Kd.R_drew)); exact Kd.R_mono HO194.out (fun _ hk => ⟨hk.1.1.1.1, ⟨hk.1.1.1.2.1, ⟨hk.1.1.1.2.2.1, ⟨hk.1.1.1.2.2.2.1, ⟨hk.1.1.1.2.2.2.2.1, ⟨hk.1.1.1.2.2.2.2.2.1, ⟨hk.1.1.1.2.2.2.2.2.2, ⟨hk.1.1.2, ⟨hk.1.2, hk.2⟩⟩⟩⟩⟩⟩⟩⟩⟩)), (by (with_reducible repeat (first | apply Kd.R_alloc | apply Kd.R_drewN | apply Kd.R_drew)); exact Kd.R_mono HO198.out (fun _ hk => ⟨hk.1.1.1.1, ⟨hk.1.1.1.2.1, ⟨hk.1.1.1.2.2.1, ⟨hk.1.1.1.2.2.2.1, ⟨hk.1.1.1.2.2.2.2.1, ⟨hk.1.1.1.2.2.2.2.2.1, ⟨hk.1.1.1.2.2.2.2.2.2, ⟨hk.1.1.2, ⟨hk.1.2, hk.2⟩⟩⟩⟩⟩⟩⟩⟩⟩)), (by (with_reducible repeat (first | apply Kd.R_alloc | apply Kd.R_drewN | apply Kd.R_drew)); exact Kd.R_mono HO204.out (fun _ hk => ⟨hk.1.1.1.1, ⟨hk.1.1.1.2.1, ⟨hk.1.1.1.2.2.1, ⟨hk.1.1.1.2.2.2.1, ⟨hk.1.1.1.2.2.2.2.1, ⟨hk.1.1.1.2.2.2.2.2.1, ⟨hk.1.1.1.2.2.2.2.2.2, ⟨hk.1.1.2, ⟨hk.1.2, hk.2⟩⟩⟩⟩⟩⟩⟩⟩⟩)), (by (with_reducible repeat (first | apply Kd.R_alloc | apply Kd.R_drewN | apply Kd.R_drew)); exact Kd.R_mono HO208.out (fun _ hk => ⟨hk.1.1.1.1, ⟨hk.1.1.1.2.1, ⟨hk.1.1.1.2.2.1, ⟨hk.1.1.1.2.2.2.1, ⟨hk.1.1.1.2.2.2.2.1, ⟨hk.1.1.1.2.2.2.2.2.1, ⟨hk.1.1.1.2.2.2.2.2.2, ⟨hk.1.1.2, ⟨hk.1.2, hk.2⟩⟩⟩⟩⟩⟩⟩⟩⟩)), (by (with_reducible repeat (first | apply Kd.R_alloc | apply Kd.R_drewN | apply Kd.R_drew)); exact Kd.R_mono HO220.out (fun _ hk => ⟨hk.1.1.1.1.1.1.1.1.1.2, ⟨hk.1.1.1.1.1.1.1.1.2, ⟨hk.1.1.1.1.1.1.1.2, ⟨hk.1.1.1.1.1.1.2, ⟨hk.1.1.1.1.1.2, ⟨hk.1.1.1.1.2, ⟨hk.1.1.1.2, ⟨hk.1.1.2, ⟨hk.1.2, hk.2⟩⟩⟩⟩⟩⟩⟩⟩⟩)), (by (with_reducible repeat (first | apply Kd.R_alloc | apply Kd.R_drewN | apply Kd.R_drew)); exact Kd.R_mono HO223.out (fun _ hk => ⟨hk.1.1.1.1.1.1.1.1.1.2, ⟨hk.1.1.1.1.1.1.1.1.2, ⟨hk.1.1.1.1.1.1.1.2, ⟨hk.1.1.1.1.1.1.2, ⟨hk.1.1.1.1.1.2, ⟨hk.1.1.1.1.2, ⟨hk.1.1.1.2, ⟨hk.1.1.2, ⟨hk.1.2, hk.2⟩⟩⟩⟩⟩⟩⟩⟩⟩)), (by (with_reducible repeat (first | apply Kd.R_alloc | apply Kd.R_drewN | apply Kd.R_drew)); exact Kd.R_mono HO226.out (fun _ hk => ⟨hk.1.1.1.1.1.1.1.1.1.2, ⟨hk.1.1.1.1.1.1.1.1.2, ⟨hk.1.1.1.1.1.1.1.2, ⟨hk.1.1.1.1.1.1.2, ⟨hk.1.1.1.1.1.2, ⟨hk.1.1.1.1.2, ⟨hk.1.1.1.2, ⟨hk.1.1.2, ⟨hk.1.2, hk.2⟩⟩⟩⟩⟩⟩⟩⟩⟩)), (kB BK173), (kB BK174), (kB BK187), (kB BK191), (kB BK195), (kB BK200), (kB BK228), GW228.out, GE228.out, NB173_228.out, NB228_173.out, NB174_228.out, NB228_174.out, NB187_228.out, NB228_187.out, NB191_228.out, NB228_191.out, NB195_228.out, NB228_195.out, NB200_228.out, NB228_200.out, (bB HB)⟩)
                  ·skip
                   refine box_step ?hg (N := 15) ?hd (cs := #[.slice none 0 0]) (t := 32) ?hr ?_; (case hd => rfl); (case hg => rfl); (case hr => first | (go_simp; done) | (go_simp; rfl))
                   intro gb228 hg w122 hbox hb
                   replace HO179 := Aside0.mk (Kd.R_below (aR HO179) hb)
                   replace HO182 := Aside0.mk (Kd.R_below (aR HO182) hb)
                   replace HO185 := Aside0.mk (Kd.R_below (aR HO185) hb)
                   replace HO190 := Aside0.mk (Kd.R_below (aR HO190) hb)
                   replace HO194 := Aside0.mk (Kd.R_below (aR HO194) hb)
                   replace HO198 := Aside0.mk (Kd.R_below (aR HO198) hb)
                   replace HO204 := Aside0.mk (Kd.R_below (aR HO204) hb)
                   replace HO208 := Aside0.mk (Kd.R_below (aR HO208) hb)
                   replace HO220 := Aside0.mk (Kd.R_below (aR HO220) hb)
                   replace HO223 := Aside0.mk (Kd.R_below (aR HO223) hb)
                   have BK228 := Aside0.mk (hbox)
                   have GW228 := Aside0.mk ((by rw [hg]; exact (below_size (bB HB)) : w.heap.size ≤ gb228))
                   have GE228 := Aside0.mk ((by rw [hg]; exact (below_size (bB HB)) : w.heap.size ≤ gb228))
                   replace HB := Aside0.mk (below_step (bB HB) hb)
                   have NB173_228 := Aside0.mk ((by rw [hg]; exact Nat.ne_of_lt (blk_lt (g := gb173) (o := .cells #[.slice A0_0 l0_0.length c0_0] 29 (0, 0)) (kB BK173)) : gb173 ≠ gb228))
                   have NB228_173 := Aside0.mk ((by rw [hg]; exact Nat.ne_of_gt (blk_lt (g := gb173) (o := .cells #[.slice A0_0 l0_0.length c0_0] 29 (0, 0)) (kB BK173)) : gb228 ≠ gb173))
                   replace BK173 := Aside0.mk (blk_below (g := gb173) (o := .cells #[.slice A0_0 l0_0.length c0_0] 29 (0, 0)) (kB BK173) hb)
                   have NB174_228 := Aside0.mk ((by rw [hg]; exact Nat.ne_of_lt (blk_lt (g := gb174) (o := .cells #[.slice A1_0 l1_0.length c1_0] 29 (0, 0)) (kB BK174)) : gb174 ≠ gb228))
                   have NB228_174 := Aside0.mk ((by rw [hg]; exact Nat.ne_of_gt (blk_lt (g := gb174) (o := .cells #[.slice A1_0 l1_0.length c1_0] 29 (0, 0)) (kB BK174)) : gb228 ≠ gb174))
                   replace BK174 := Aside0.mk (blk_below (g := gb174) (o := .cells #[.slice A1_0 l1_0.length c1_0] 29 (0, 0)) (kB BK174) hb)
                   have NB187_228 := Aside0.mk ((by rw [hg]; exact Nat.ne_of_lt (blk_lt (g := gb187) (o := .cells #[.slice Ao67 t183.length co67] 32 (0, 0)) (kB BK187)) : gb187 ≠ gb228))
                   have NB228_187 := Aside0.mk ((by rw [hg]; exact Nat.ne_of_gt (blk_lt (g := gb187) (o := .cells #[.slice Ao67 t183.length co67] 32 (0, 0)) (kB BK187)) : gb228 ≠ gb187))
                   replace BK187 := Aside0.mk (blk_below (g := gb187) (o := .cells #[.slice Ao67 t183.length co67] 32 (0, 0)) (kB BK187) hb)
                   have NB191_228 := Aside0.mk ((by rw [hg]; exact Nat.ne_of_lt (blk_lt (g := gb191) (o := .cells #[.slice Ao73 t188.length co73] 32 (0, 0)) (kB BK191)) : gb191 ≠ gb228))
                   have NB228_191 := Aside0.mk ((by rw [hg]; exact Nat.ne_of_gt (blk_lt (g := gb191) (o := .cells #[.slice Ao73 t188.length co73] 32 (0, 0)) (kB BK191)) : gb228 ≠ gb191))
                   replace BK191 := Aside0.mk (blk_below (g := gb191) (o := .cells #[.slice Ao73 t188.length co73] 32 (0, 0)) (kB BK191) hb)
                   have NB195_228 := Aside0.mk ((by rw [hg]; exact Nat.ne_of_lt (blk_lt (g := gb195) (o := .cells #[.slice Ao82 t192.length co82] 32 (0, 0)) (kB BK195)) : gb195 ≠ gb228))
                   have NB228_195 := Aside0.mk ((by rw [hg]; exact Nat.ne_of_gt (blk_lt (g := gb195) (o := .cells #[.slice Ao82 t192.length co82] 32 (0, 0)) (kB BK195)) : gb228 ≠ gb195))
                   replace BK195 := Aside0.mk (blk_below (g := gb195) (o := .cells #[.slice Ao82 t192.length co82] 32 (0, 0)) (kB BK195) hb)
                   have NB200_228 := Aside0.mk ((by rw [hg]; exact Nat.ne_of_lt (blk_lt (g := gb200) (o := .cells #[.slice Ao91 t196.length co91] 32 (0, 0)) (kB BK200)) : gb200 ≠ gb228))
                   have NB228_200 := Aside0.mk ((by rw [hg]; exact Nat.ne_of_gt (blk_lt (g := gb200) (o := .cells #[.slice Ao91 t196.length co91] 32 (0, 0)) (kB BK200)) : gb228 ≠ gb200))
                   replace BK200 := Aside0.mk (blk_below (g := gb200) (o := .cells #[.slice Ao91 t196.length co91] 32 (0, 0)) (kB BK200) hb)
                   clear hb hbox hg
                   obtain ⟨Ao123, co123, eo123⟩ := Kd.R_slice HO220.out
                   (first | subst eo123 | (injection eo123 with f1_ f2_ f3_; have f4_ := f1_.symm; have f5_ := f3_.symm; clear f1_ f2_ f3_; subst f4_; subst f5_))
                   obtain ⟨Ao124, co124, eo124⟩ := Kd.R_slice HO223.out
                   (first | subst eo124 | (injection eo124 with f1_ f2_ f3_; have f4_ := f1_.symm; have f5_ := f3_.symm; clear f1_ f2_ f3_; subst f4_; subst f5_))
                   refine hK.out _ _ ⟨(blk_cell BK173.out 0).trans rfl, (blk_cell BK174.out 0).trans rfl⟩ (fun hHeld => ?_)
                   clear hK K
                   refine norm_ (a' := ?_) ?_ ?_
                   rotate_left
                   ·show Act.put _ (some 15) _ = _
                    simp only [Act.put, List.setIfInBounds_toArray, List.set_cons_zero, List.set_cons_succ, i64_w, i32_w]
                    rfl
                   refine one_ (i := 4) (N := some 99) #[true, true, true, true, true, false, false, false, true, false, false] rfl rfl (one_of HT_.out (by kernel_rfl)) (by decide) (fun K hK => ?_)
                   refine goes_ Try.func25 (by kernel_rfl) rfl #[.agg #[.slice Ao123 t218.length co123], .agg #[.slice Ao124 t221.length co124]] (by rfl) rfl rfl (by (try simp only [List.map_toArray, List.map_cons, List.map_nil]); first | done | rfl | (simp only [List.length_drop, List.length_take]; rfl)) ?_
                   with_reducible refine (impl_MeetFilters.calls k _ _ t218 _ _ t221 t224 t227 _ ?side1 ?side2 ?side3 ?side4 A45.out).mono ?_
                   (case side1 => repeat (first | exact (Kd.R_reads' HO220.out).2.2 | (with_reducible refine Kd.C_alloc ?_ _) | (with_reducible refine Kd.C_drewN ?_ _) | (with_reducible refine Kd.C_drew ?_)))
                   (case side2 => exact (Kd.R_reads' HO220.out).2.1)
                   (case side3 => repeat (first | exact (Kd.R_reads' HO223.out).2.2 | (with_reducible refine Kd.C_alloc ?_ _) | (with_reducible refine Kd.C_drewN ?_ _) | (with_reducible refine Kd.C_drew ?_)))
                   (case side4 => exact (Kd.R_reads' HO223.out).2.1)
                   rintro e w125 ⟨v225, rfl, ho0, hb⟩
                   refine ⟨_, rfl, ?_⟩
                   have HO226 := Aside0.mk (Kd.R_lower (Kd.R_new' (Kd.R_new' (Kd.R_new' (Kd.R_new' (Kd.R_new' (Kd.R_new' (Kd.R_new' (Kd.R_new' (Kd.R_new' (Kd.R_new' ho0 (Kd.R_lt (aR HO179))) (Kd.R_lt (aR HO182))) (Kd.R_lt (aR HO185))) (Kd.R_lt (aR HO190))) (Kd.R_lt (aR HO194))) (Kd.R_lt (aR HO198))) (Kd.R_lt (aR HO204))) (Kd.R_lt (aR HO208))) (Kd.R_lt (aR HO220))) (Kd.R_lt (aR HO223))) (below_size (bB HB)))
                   replace HO179 := Aside0.mk (Kd.R_elder' (aR HO179) (Kd.R_base ho0) hb)
                   replace HO182 := Aside0.mk (Kd.R_elder' (aR HO182) (Kd.R_base ho0) hb)
                   replace HO185 := Aside0.mk (Kd.R_elder' (aR HO185) (Kd.R_base ho0) hb)
                   replace HO190 := Aside0.mk (Kd.R_elder' (aR HO190) (Kd.R_base ho0) hb)
                   replace HO194 := Aside0.mk (Kd.R_elder' (aR HO194) (Kd.R_base ho0) hb)
                   replace HO198 := Aside0.mk (Kd.R_elder' (aR HO198) (Kd.R_base ho0) hb)
                   replace HO204 := Aside0.mk (Kd.R_elder' (aR HO204) (Kd.R_base ho0) hb)
                   replace HO208 := Aside0.mk (Kd.R_elder' (aR HO208) (Kd.R_base ho0) hb)
                   replace HO220 := Aside0.mk (Kd.R_elder' (aR HO220) (Kd.R_base ho0) hb)
                   replace HO223 := Aside0.mk (Kd.R_elder' (aR HO223) (Kd.R_base ho0) hb)
                   replace BK173 := Aside0.mk (blk_below (g := gb173) (o := .cells #[.slice A0_0 l0_0.length c0_0] 29 (0, 0)) (kB BK173) hb)
                   replace BK174 := Aside0.mk (blk_below (g := gb174) (o := .cells #[.slice A1_0 l1_0.length c1_0] 29 (0, 0)) (kB BK174) hb)
                   replace BK187 := Aside0.mk (blk_below (g := gb187) (o := .cells #[.slice Ao67 t183.length co67] 32 (0, 0)) (kB BK187) hb)
                   replace BK191 := Aside0.mk (blk_below (g := gb191) (o := .cells #[.slice Ao73 t188.length co73] 32 (0, 0)) (kB BK191) hb)
                   replace BK195 := Aside0.mk (blk_below (g := gb195) (o := .cells #[.slice Ao82 t192.length co82] 32 (0, 0)) (kB BK195) hb)
                   replace BK200 := Aside0.mk (blk_below (g := gb200) (o := .cells #[.slice Ao91 t196.length co91] 32 (0, 0)) (kB BK200) hb)
                   replace BK228 := Aside0.mk (blk_below (g := gb228) (o := .cells #[.slice none 0 0] 32 (0, 0)) (kB BK228) hb)
                   replace HB := Aside0.mk (below_step (bB HB) hb)
                   (try clear hb);(try clear hb2);(try clear hk);(try clear hi);(try clear ho0)
                   refine hK.out _ _ ⟨(blk_cell BK173.out 0).trans rfl, (blk_cell BK174.out 0).trans rfl⟩ (fun hHeld => ?_)
                   clear hK K
                   refine norm_ (a' := ?_) ?_ ?_
                   rotate_left
                   ·show Act.put _ (some 99) _ = _
                    simp only [Act.put, List.setIfInBounds_toArray, List.set_cons_zero, List.set_cons_succ, i64_w, i32_w]
                    rfl
                   refine pure_ (i := 5) (N := some 94) (v := ?_) (a' := ?_) #[true, true, true, true, true, true, false, false, true, false, false] rfl rfl (any_of HT_.out (by kernel_rfl)) (fun _ _ _ h => h) (Or.inl ⟨by rfl, ?_⟩) ?_ ?_
                   rotate_left
                   ·intro w'
                    go_simp
                    with_reducible rfl
                   rotate_left
                   ·simp only [Act.put, List.setIfInBounds_toArray, List.set_cons_zero, List.set_cons_succ, i64_w, i32_w]
                    rfl
                   refine pure_ (i := 6) (N := some 100) (v := ?_) (a' := ?_) #[true, true, true, true, true, true, true, false, true, false, false] rfl rfl (any_of HT_.out (by kernel_rfl)) (fun _ _ _ h => h) (Or.inl ⟨by rfl, ?_⟩) ?_ ?_
                   rotate_left
                   ·intro w'
                    go_simp
                    with_reducible rfl
                   rotate_left
                   ·simp only [Act.put, List.setIfInBounds_toArray, List.set_cons_zero, List.set_cons_succ, i64_w, i32_w]
                    rfl
                   refine pure_ (i := 7) (N := some 101) (v := ?_) (a' := ?_) #[true, true, true, true, true, true, true, true, true, false, false] rfl rfl (any_of HT_.out (by kernel_rfl)) (fun _ _ _ h => h) (Or.inl ⟨by rfl, ?_⟩) ?_ ?_
                   rotate_left
                   ·intro w'
                    go_simp
                    with_reducible rfl
                   rotate_left
                   ·simp only [Act.put, List.setIfInBounds_toArray, List.set_cons_zero, List.set_cons_succ, i64_w, i32_w]
                    rfl
                   exact norm_ (by simp only [putAll, Act.put, List.setIfInBounds_toArray, List.set_cons_zero, List.set_cons_succ]) (hCont (.slice Ao123 t218.length co123, .slice Ao124 t221.length co124, v225, gb228) _ ⟨hHeld, (by (with_reducible repeat (first | apply Kd.R_alloc | apply Kd.R_drewN | apply Kd.R_drew)); exact Kd.R_mono HO179.out (fun _ hk => ⟨hk.1.1.1.1, ⟨hk.1.1.1.2.1, ⟨hk.1.1.1.2.2.1, ⟨hk.1.1.1.2.2.2.1, ⟨hk.1.1.1.2.2.2.2.1, ⟨hk.1.1.1.2.2.2.2.2.1, ⟨hk.1.1.1.2.2.2.2.2.2, ⟨hk.1.1.2, ⟨hk.1.2, hk.2⟩⟩⟩⟩⟩⟩⟩⟩⟩)), (by (with_reducible repeat (first | apply Kd.R_alloc | apply Kd.R_drewN | apply Kd.R_drew)); exact Kd.R_mono HO182.out (fun _ hk => ⟨hk.1.1.1.1, ⟨hk.1.1.1.2.1, ⟨hk.1.1.1.2.2.1, ⟨hk.1.1.1.2.2.2.1, ⟨hk.1.1.1.2.2.2.2.1, ⟨hk.1.1.1.2.2.2.2.2.1, ⟨hk.1.1.1.2.2.2.2.2.2, ⟨hk.1.1.2, ⟨hk.1.2, hk.2⟩⟩⟩⟩⟩⟩⟩⟩⟩)), (by (with_reducible repeat (first | apply Kd.R_alloc | apply Kd.R_drewN | apply Kd.R_drew)); exact Kd.R_mono HO185.out (fun _ hk => ⟨hk.1.1.1.1, ⟨hk.1.1.1.2.1, ⟨hk.1.1.1.2.2.1, ⟨hk.1.1.1.2.2.2.1, ⟨hk.1.1.1.2.2.2.2.1, ⟨hk.1.1.1.2.2.2.2.2.1, ⟨hk.1.1.1.2.2.2.2.2.2, ⟨hk.1.1.2, ⟨hk.1.2, hk.2⟩⟩⟩⟩⟩⟩⟩⟩⟩)), (by (with_reducible repeat (first | apply Kd.R_alloc | apply Kd.R_drewN | apply Kd.R_drew)); exact Kd.R_mono HO190.out (fun _ hk => ⟨hk.1.1.1.1, ⟨hk.1.1.1.2.1, ⟨hk.1.1.1.2.2.1, ⟨hk.1.1.1.2.2.2.1, ⟨hk.1.1.1.2.2.2.2.1, ⟨hk.1.1.1.2.2.2.2.2.1, ⟨hk.1.1.1.2.2.2.2.2.2, ⟨hk.1.1.2, ⟨hk.1.2, hk.2⟩⟩⟩⟩⟩⟩⟩⟩⟩)), (by (with_reducible repeat (first | apply Kd.R_alloc | apply Kd.R_drewN | apply Kd.R_drew)); exact Kd.R_mono HO194.out (fun _ hk => ⟨hk.1.1.1.1, ⟨hk.1.1.1.2.1, ⟨hk.1.1.1.2.2.1, ⟨hk.1.1.1.2.2.2.1, ⟨hk.1.1.1.2.2.2.2.1, ⟨hk.1.1.1.2.2.2.2.2.1, ⟨hk.1.1.1.2.2.2.2.2.2, ⟨hk.1.1.2, ⟨hk.1.2, hk.2⟩⟩⟩⟩⟩⟩⟩⟩⟩)), (by (with_reducible repeat (first | apply Kd.R_alloc | apply Kd.R_drewN | apply Kd.R_drew)); exact Kd.R_mono HO198.out (fun _ hk => ⟨hk.1.1.1.1, ⟨hk.1.1.1.2.1, ⟨hk.1.1.1.2.2.1, ⟨hk.1.1.1.2.2.2.1, ⟨hk.1.1.1.2.2.2.2.1, ⟨hk.1.1.1.2.2.2.2.2.1, ⟨hk.1.1.1.2.2.2.2.2.2, ⟨hk.1.1.2, ⟨hk.1.2, hk.2⟩⟩⟩⟩⟩⟩⟩⟩⟩)), (by (with_reducible repeat (first | apply Kd.R_alloc | apply Kd.R_drewN | apply Kd.R_drew)); exact Kd.R_mono HO204.out (fun _ hk => ⟨hk.1.1.1.1, ⟨hk.1.1.1.2.1, ⟨hk.1.1.1.2.2.1, ⟨hk.1.1.1.2.2.2.1, ⟨hk.1.1.1.2.2.2.2.1, ⟨hk.1.1.1.2.2.2.2.2.1, ⟨hk.1.1.1.2.2.2.2.2.2, ⟨hk.1.1.2, ⟨hk.1.2, hk.2⟩⟩⟩⟩⟩⟩⟩⟩⟩)), (by (with_reducible repeat (first | apply Kd.R_alloc | apply Kd.R_drewN | apply Kd.R_drew)); exact Kd.R_mono HO208.out (fun _ hk => ⟨hk.1.1.1.1, ⟨hk.1.1.1.2.1, ⟨hk.1.1.1.2.2.1, ⟨hk.1.1.1.2.2.2.1, ⟨hk.1.1.1.2.2.2.2.1, ⟨hk.1.1.1.2.2.2.2.2.1, ⟨hk.1.1.1.2.2.2.2.2.2, ⟨hk.1.1.2, ⟨hk.1.2, hk.2⟩⟩⟩⟩⟩⟩⟩⟩⟩)), (by (with_reducible repeat (first | apply Kd.R_alloc | apply Kd.R_drewN | apply Kd.R_drew)); exact Kd.R_mono HO220.out (fun _ hk => ⟨hk.1.1.1.1.1.1.1.1.1.2, ⟨hk.1.1.1.1.1.1.1.1.2, ⟨hk.1.1.1.1.1.1.1.2, ⟨hk.1.1.1.1.1.1.2, ⟨hk.1.1.1.1.1.2, ⟨hk.1.1.1.1.2, ⟨hk.1.1.1.2, ⟨hk.1.1.2, ⟨hk.1.2, hk.2⟩⟩⟩⟩⟩⟩⟩⟩⟩)), (by (with_reducible repeat (first | apply Kd.R_alloc | apply Kd.R_drewN | apply Kd.R_drew)); exact Kd.R_mono HO223.out (fun _ hk => ⟨hk.1.1.1.1.1.1.1.1.1.2, ⟨hk.1.1.1.1.1.1.1.1.2, ⟨hk.1.1.1.1.1.1.1.2, ⟨hk.1.1.1.1.1.1.2, ⟨hk.1.1.1.1.1.2, ⟨hk.1.1.1.1.2, ⟨hk.1.1.1.2, ⟨hk.1.1.2, ⟨hk.1.2, hk.2⟩⟩⟩⟩⟩⟩⟩⟩⟩)), (by (with_reducible repeat (first | apply Kd.R_alloc | apply Kd.R_drewN | apply Kd.R_drew)); exact Kd.R_mono HO226.out (fun _ hk => ⟨hk.1.1.1.1.1.1.1.1.1.2, ⟨hk.1.1.1.1.1.1.1.1.2, ⟨hk.1.1.1.1.1.1.1.2, ⟨hk.1.1.1.1.1.1.2, ⟨hk.1.1.1.1.1.2, ⟨hk.1.1.1.1.2, ⟨hk.1.1.1.2, ⟨hk.1.1.2, ⟨hk.1.2, hk.2⟩⟩⟩⟩⟩⟩⟩⟩⟩)), (kB BK173), (kB BK174), (kB BK187), (kB BK191), (kB BK195), (kB BK200), (kB BK228), GW228.out, GE228.out, NB173_228.out, NB228_173.out, NB174_228.out, NB228_174.out, NB187_228.out, NB228_187.out, NB191_228.out, NB228_191.out, NB195_228.out, NB228_195.out, NB200_228.out, NB228_200.out, (bB HB)⟩)
                 ·skip
                  refine box_step ?hg (N := 15) ?hd (cs := #[.slice none 0 0]) (t := 32) ?hr ?_; (case hd => rfl); (case hg => rfl); (case hr => first | (go_simp; done) | (go_simp; rfl))
                  intro gb228 hg w121 hbox hb
                  replace HO179 := Aside0.mk (Kd.R_below (aR HO179) hb)
                  replace HO182 := Aside0.mk (Kd.R_below (aR HO182) hb)
                  replace HO185 := Aside0.mk (Kd.R_below (aR HO185) hb)
                  replace HO190 := Aside0.mk (Kd.R_below (aR HO190) hb)
                  replace HO194 := Aside0.mk (Kd.R_below (aR HO194) hb)
                  replace HO198 := Aside0.mk (Kd.R_below (aR HO198) hb)
                  replace HO204 := Aside0.mk (Kd.R_below (aR HO204) hb)
                  replace HO208 := Aside0.mk (Kd.R_below (aR HO208) hb)
                  replace HO220 := Aside0.mk (Kd.R_below (aR HO220) hb)
                  have BK228 := Aside0.mk (hbox)
                  have GW228 := Aside0.mk ((by rw [hg]; exact (below_size (bB HB)) : w.heap.size ≤ gb228))
                  have GE228 := Aside0.mk ((by rw [hg]; exact (below_size (bB HB)) : w.heap.size ≤ gb228))
                  replace HB := Aside0.mk (below_step (bB HB) hb)
                  have NB173_228 := Aside0.mk ((by rw [hg]; exact Nat.ne_of_lt (blk_lt (g := gb173) (o := .cells #[.slice A0_0 l0_0.length c0_0] 29 (0, 0)) (kB BK173)) : gb173 ≠ gb228))
                  have NB228_173 := Aside0.mk ((by rw [hg]; exact Nat.ne_of_gt (blk_lt (g := gb173) (o := .cells #[.slice A0_0 l0_0.length c0_0] 29 (0, 0)) (kB BK173)) : gb228 ≠ gb173))
                  replace BK173 := Aside0.mk (blk_below (g := gb173) (o := .cells #[.slice A0_0 l0_0.length c0_0] 29 (0, 0)) (kB BK173) hb)
                  have NB174_228 := Aside0.mk ((by rw [hg]; exact Nat.ne_of_lt (blk_lt (g := gb174) (o := .cells #[.slice A1_0 l1_0.length c1_0] 29 (0, 0)) (kB BK174)) : gb174 ≠ gb228))
                  have NB228_174 := Aside0.mk ((by rw [hg]; exact Nat.ne_of_gt (blk_lt (g := gb174) (o := .cells #[.slice A1_0 l1_0.length c1_0] 29 (0, 0)) (kB BK174)) : gb228 ≠ gb174))
                  replace BK174 := Aside0.mk (blk_below (g := gb174) (o := .cells #[.slice A1_0 l1_0.length c1_0] 29 (0, 0)) (kB BK174) hb)
                  have NB187_228 := Aside0.mk ((by rw [hg]; exact Nat.ne_of_lt (blk_lt (g := gb187) (o := .cells #[.slice Ao67 t183.length co67] 32 (0, 0)) (kB BK187)) : gb187 ≠ gb228))
                  have NB228_187 := Aside0.mk ((by rw [hg]; exact Nat.ne_of_gt (blk_lt (g := gb187) (o := .cells #[.slice Ao67 t183.length co67] 32 (0, 0)) (kB BK187)) : gb228 ≠ gb187))
                  replace BK187 := Aside0.mk (blk_below (g := gb187) (o := .cells #[.slice Ao67 t183.length co67] 32 (0, 0)) (kB BK187) hb)
                  have NB191_228 := Aside0.mk ((by rw [hg]; exact Nat.ne_of_lt (blk_lt (g := gb191) (o := .cells #[.slice Ao73 t188.length co73] 32 (0, 0)) (kB BK191)) : gb191 ≠ gb228))
                  have NB228_191 := Aside0.mk ((by rw [hg]; exact Nat.ne_of_gt (blk_lt (g := gb191) (o := .cells #[.slice Ao73 t188.length co73] 32 (0, 0)) (kB BK191)) : gb228 ≠ gb191))
                  replace BK191 := Aside0.mk (blk_below (g := gb191) (o := .cells #[.slice Ao73 t188.length co73] 32 (0, 0)) (kB BK191) hb)
                  have NB195_228 := Aside0.mk ((by rw [hg]; exact Nat.ne_of_lt (blk_lt (g := gb195) (o := .cells #[.slice Ao82 t192.length co82] 32 (0, 0)) (kB BK195)) : gb195 ≠ gb228))
                  have NB228_195 := Aside0.mk ((by rw [hg]; exact Nat.ne_of_gt (blk_lt (g := gb195) (o := .cells #[.slice Ao82 t192.length co82] 32 (0, 0)) (kB BK195)) : gb228 ≠ gb195))
                  replace BK195 := Aside0.mk (blk_below (g := gb195) (o := .cells #[.slice Ao82 t192.length co82] 32 (0, 0)) (kB BK195) hb)
                  have NB200_228 := Aside0.mk ((by rw [hg]; exact Nat.ne_of_lt (blk_lt (g := gb200) (o := .cells #[.slice Ao91 t196.length co91] 32 (0, 0)) (kB BK200)) : gb200 ≠ gb228))
                  have NB228_200 := Aside0.mk ((by rw [hg]; exact Nat.ne_of_gt (blk_lt (g := gb200) (o := .cells #[.slice Ao91 t196.length co91] 32 (0, 0)) (kB BK200)) : gb228 ≠ gb200))
                  replace BK200 := Aside0.mk (blk_below (g := gb200) (o := .cells #[.slice Ao91 t196.length co91] 32 (0, 0)) (kB BK200) hb)
                  clear hb hbox hg
                  refine hK.out _ _ ⟨(blk_cell BK173.out 0).trans rfl, (blk_cell BK174.out 0).trans rfl⟩ (fun hHeld => ?_)
                  clear hK K
                  refine norm_ (a' := ?_) ?_ ?_
                  rotate_left
                  ·show Act.put _ (some 15) _ = _
                   simp only [Act.put, List.setIfInBounds_toArray, List.set_cons_zero, List.set_cons_succ, i64_w, i32_w]
                   rfl
                  refine one_ (i := 3) (N := some 98) #[true, true, true, true, false, false, false, false, true, false, false] rfl rfl (one_of HT_.out (by kernel_rfl)) (by decide) (fun K hK => ?_)
                  refine goes_ Try.func17 (by kernel_rfl) rfl #[.agg #[.slice A1_0 l1_0.length c1_0]] (by rfl) rfl rfl (by (try simp only [List.map_toArray, List.map_cons, List.map_nil]); first | done | rfl | (simp only [List.length_drop, List.length_take]; rfl)) ?_
                  with_reducible refine (laws_toFilter.calls k _ _ l1_0 t221 _ ?side1 ?side2 A44.out).mono ?_
                  (case side1 => repeat (first | exact (Kd.C_below HR1_0.out HB.out) | (with_reducible refine Kd.C_alloc ?_ _) | (with_reducible refine Kd.C_drewN ?_ _) | (with_reducible refine Kd.C_drew ?_)))
                  (case side2 => exact HC1_0.out)
                  rintro e w122 ⟨v222, rfl, ho0, hb⟩
                  refine ⟨_, rfl, ?_⟩
                  have HO223 := Aside0.mk (Kd.R_lower (Kd.R_new' (Kd.R_new' (Kd.R_new' (Kd.R_new' (Kd.R_new' (Kd.R_new' (Kd.R_new' (Kd.R_new' (Kd.R_new' ho0 (Kd.R_lt (aR HO179))) (Kd.R_lt (aR HO182))) (Kd.R_lt (aR HO185))) (Kd.R_lt (aR HO190))) (Kd.R_lt (aR HO194))) (Kd.R_lt (aR HO198))) (Kd.R_lt (aR HO204))) (Kd.R_lt (aR HO208))) (Kd.R_lt (aR HO220))) (below_size (bB HB)))
                  replace HO179 := Aside0.mk (Kd.R_elder' (aR HO179) (Kd.R_base ho0) hb)
                  replace HO182 := Aside0.mk (Kd.R_elder' (aR HO182) (Kd.R_base ho0) hb)
                  replace HO185 := Aside0.mk (Kd.R_elder' (aR HO185) (Kd.R_base ho0) hb)
                  replace HO190 := Aside0.mk (Kd.R_elder' (aR HO190) (Kd.R_base ho0) hb)
                  replace HO194 := Aside0.mk (Kd.R_elder' (aR HO194) (Kd.R_base ho0) hb)
                  replace HO198 := Aside0.mk (Kd.R_elder' (aR HO198) (Kd.R_base ho0) hb)
                  replace HO204 := Aside0.mk (Kd.R_elder' (aR HO204) (Kd.R_base ho0) hb)
                  replace HO208 := Aside0.mk (Kd.R_elder' (aR HO208) (Kd.R_base ho0) hb)
                  replace HO220 := Aside0.mk (Kd.R_elder' (aR HO220) (Kd.R_base ho0) hb)
                  replace BK173 := Aside0.mk (blk_below (g := gb173) (o := .cells #[.slice A0_0 l0_0.length c0_0] 29 (0, 0)) (kB BK173) hb)
                  replace BK174 := Aside0.mk (blk_below (g := gb174) (o := .cells #[.slice A1_0 l1_0.length c1_0] 29 (0, 0)) (kB BK174) hb)
                  replace BK187 := Aside0.mk (blk_below (g := gb187) (o := .cells #[.slice Ao67 t183.length co67] 32 (0, 0)) (kB BK187) hb)
                  replace BK191 := Aside0.mk (blk_below (g := gb191) (o := .cells #[.slice Ao73 t188.length co73] 32 (0, 0)) (kB BK191) hb)
                  replace BK195 := Aside0.mk (blk_below (g := gb195) (o := .cells #[.slice Ao82 t192.length co82] 32 (0, 0)) (kB BK195) hb)
                  replace BK200 := Aside0.mk (blk_below (g := gb200) (o := .cells #[.slice Ao91 t196.length co91] 32 (0, 0)) (kB BK200) hb)
                  replace BK228 := Aside0.mk (blk_below (g := gb228) (o := .cells #[.slice none 0 0] 32 (0, 0)) (kB BK228) hb)
                  replace HB := Aside0.mk (below_step (bB HB) hb)
                  (try clear hb);(try clear hb2);(try clear hk);(try clear hi);(try clear ho0)
                  obtain ⟨Ao123, co123, eo123⟩ := Kd.R_slice HO220.out
                  (first | subst eo123 | (injection eo123 with f1_ f2_ f3_; have f4_ := f1_.symm; have f5_ := f3_.symm; clear f1_ f2_ f3_; subst f4_; subst f5_))
                  obtain ⟨Ao124, co124, eo124⟩ := Kd.R_slice HO223.out
                  (first | subst eo124 | (injection eo124 with f1_ f2_ f3_; have f4_ := f1_.symm; have f5_ := f3_.symm; clear f1_ f2_ f3_; subst f4_; subst f5_))
                  refine hK.out _ _ ⟨(blk_cell BK173.out 0).trans rfl, (blk_cell BK174.out 0).trans rfl⟩ (fun hHeld => ?_)
                  clear hK K
                  refine norm_ (a' := ?_) ?_ ?_
                  rotate_left
                  ·show Act.put _ (some 98) _ = _
                   simp only [Act.put, List.setIfInBounds_toArray, List.set_cons_zero, List.set_cons_succ, i64_w, i32_w]
                   rfl
                  refine one_ (i := 4) (N := some 99) #[true, true, true, true, true, false, false, false, true, false, false] rfl rfl (one_of HT_.out (by kernel_rfl)) (by decide) (fun K hK => ?_)
                  refine goes_ Try.func25 (by kernel_rfl) rfl #[.agg #[.slice Ao123 t218.length co123], .agg #[.slice Ao124 t221.length co124]] (by rfl) rfl rfl (by (try simp only [List.map_toArray, List.map_cons, List.map_nil]); first | done | rfl | (simp only [List.length_drop, List.length_take]; rfl)) ?_
                  with_reducible refine (impl_MeetFilters.calls k _ _ t218 _ _ t221 t224 t227 _ ?side1 ?side2 ?side3 ?side4 A45.out).mono ?_
                  (case side1 => repeat (first | exact (Kd.R_reads' HO220.out).2.2 | (with_reducible refine Kd.C_alloc ?_ _) | (with_reducible refine Kd.C_drewN ?_ _) | (with_reducible refine Kd.C_drew ?_)))
                  (case side2 => exact (Kd.R_reads' HO220.out).2.1)
                  (case side3 => repeat (first | exact (Kd.R_reads' HO223.out).2.2 | (with_reducible refine Kd.C_alloc ?_ _) | (with_reducible refine Kd.C_drewN ?_ _) | (with_reducible refine Kd.C_drew ?_)))
                  (case side4 => exact (Kd.R_reads' HO223.out).2.1)
                  rintro e w125 ⟨v225, rfl, ho0, hb⟩
                  refine ⟨_, rfl, ?_⟩
                  have HO226 := Aside0.mk (Kd.R_lower (Kd.R_new' (Kd.R_new' (Kd.R_new' (Kd.R_new' (Kd.R_new' (Kd.R_new' (Kd.R_new' (Kd.R_new' (Kd.R_new' (Kd.R_new' ho0 (Kd.R_lt (aR HO179))) (Kd.R_lt (aR HO182))) (Kd.R_lt (aR HO185))) (Kd.R_lt (aR HO190))) (Kd.R_lt (aR HO194))) (Kd.R_lt (aR HO198))) (Kd.R_lt (aR HO204))) (Kd.R_lt (aR HO208))) (Kd.R_lt (aR HO220))) (Kd.R_lt (aR HO223))) (below_size (bB HB)))
                  replace HO179 := Aside0.mk (Kd.R_elder' (aR HO179) (Kd.R_base ho0) hb)
                  replace HO182 := Aside0.mk (Kd.R_elder' (aR HO182) (Kd.R_base ho0) hb)
                  replace HO185 := Aside0.mk (Kd.R_elder' (aR HO185) (Kd.R_base ho0) hb)
                  replace HO190 := Aside0.mk (Kd.R_elder' (aR HO190) (Kd.R_base ho0) hb)
                  replace HO194 := Aside0.mk (Kd.R_elder' (aR HO194) (Kd.R_base ho0) hb)
                  replace HO198 := Aside0.mk (Kd.R_elder' (aR HO198) (Kd.R_base ho0) hb)
                  replace HO204 := Aside0.mk (Kd.R_elder' (aR HO204) (Kd.R_base ho0) hb)
                  replace HO208 := Aside0.mk (Kd.R_elder' (aR HO208) (Kd.R_base ho0) hb)
                  replace HO220 := Aside0.mk (Kd.R_elder' (aR HO220) (Kd.R_base ho0) hb)
                  replace HO223 := Aside0.mk (Kd.R_elder' (aR HO223) (Kd.R_base ho0) hb)
                  replace BK173 := Aside0.mk (blk_below (g := gb173) (o := .cells #[.slice A0_0 l0_0.length c0_0] 29 (0, 0)) (kB BK173) hb)
                  replace BK174 := Aside0.mk (blk_below (g := gb174) (o := .cells #[.slice A1_0 l1_0.length c1_0] 29 (0, 0)) (kB BK174) hb)
                  replace BK187 := Aside0.mk (blk_below (g := gb187) (o := .cells #[.slice Ao67 t183.length co67] 32 (0, 0)) (kB BK187) hb)
                  replace BK191 := Aside0.mk (blk_below (g := gb191) (o := .cells #[.slice Ao73 t188.length co73] 32 (0, 0)) (kB BK191) hb)
                  replace BK195 := Aside0.mk (blk_below (g := gb195) (o := .cells #[.slice Ao82 t192.length co82] 32 (0, 0)) (kB BK195) hb)
                  replace BK200 := Aside0.mk (blk_below (g := gb200) (o := .cells #[.slice Ao91 t196.length co91] 32 (0, 0)) (kB BK200) hb)
                  replace BK228 := Aside0.mk (blk_below (g := gb228) (o := .cells #[.slice none 0 0] 32 (0, 0)) (kB BK228) hb)
                  replace HB := Aside0.mk (below_step (bB HB) hb)
                  (try clear hb);(try clear hb2);(try clear hk);(try clear hi);(try clear ho0)
                  refine hK.out _ _ ⟨(blk_cell BK173.out 0).trans rfl, (blk_cell BK174.out 0).trans rfl⟩ (fun hHeld => ?_)
                  clear hK K
                  refine norm_ (a' := ?_) ?_ ?_
                  rotate_left
                  ·show Act.put _ (some 99) _ = _
                   simp only [Act.put, List.setIfInBounds_toArray, List.set_cons_zero, List.set_cons_succ, i64_w, i32_w]
                   rfl
                  refine pure_ (i := 5) (N := some 94) (v := ?_) (a' := ?_) #[true, true, true, true, true, true, false, false, true, false, false] rfl rfl (any_of HT_.out (by kernel_rfl)) (fun _ _ _ h => h) (Or.inl ⟨by rfl, ?_⟩) ?_ ?_
                  rotate_left
                  ·intro w'
                   go_simp
                   with_reducible rfl
                  rotate_left
                  ·simp only [Act.put, List.setIfInBounds_toArray, List.set_cons_zero, List.set_cons_succ, i64_w, i32_w]
                   rfl
                  refine pure_ (i := 6) (N := some 100) (v := ?_) (a' := ?_) #[true, true, true, true, true, true, true, false, true, false, false] rfl rfl (any_of HT_.out (by kernel_rfl)) (fun _ _ _ h => h) (Or.inl ⟨by rfl, ?_⟩) ?_ ?_
                  rotate_left
                  ·intro w'
                   go_simp
                   with_reducible rfl
                  rotate_left
                  ·simp only [Act.put, List.setIfInBounds_toArray, List.set_cons_zero, List.set_cons_succ, i64_w, i32_w]
                   rfl
                  refine pure_ (i := 7) (N := some 101) (v := ?_) (a' := ?_) #[true, true, true, true, true, true, true, true, true, false, false] rfl rfl (any_of HT_.out (by kernel_rfl)) (fun _ _ _ h => h) (Or.inl ⟨by rfl, ?_⟩) ?_ ?_
                  rotate_left
                  ·intro w'
                   go_simp
                   with_reducible rfl
                  rotate_left
                  ·simp only [Act.put, List.setIfInBounds_toArray, List.set_cons_zero, List.set_cons_succ, i64_w, i32_w]
                   rfl
                  exact norm_ (by simp only [putAll, Act.put, List.setIfInBounds_toArray, List.set_cons_zero, List.set_cons_succ]) (hCont (.slice Ao123 t218.length co123, .slice Ao124 t221.length co124, v225, gb228) _ ⟨hHeld, (by (with_reducible repeat (first | apply Kd.R_alloc | apply Kd.R_drewN | apply Kd.R_drew)); exact Kd.R_mono HO179.out (fun _ hk => ⟨hk.1.1.1.1, ⟨hk.1.1.1.2.1, ⟨hk.1.1.1.2.2.1, ⟨hk.1.1.1.2.2.2.1, ⟨hk.1.1.1.2.2.2.2.1, ⟨hk.1.1.1.2.2.2.2.2.1, ⟨hk.1.1.1.2.2.2.2.2.2, ⟨hk.1.1.2, ⟨hk.1.2, hk.2⟩⟩⟩⟩⟩⟩⟩⟩⟩)), (by (with_reducible repeat (first | apply Kd.R_alloc | apply Kd.R_drewN | apply Kd.R_drew)); exact Kd.R_mono HO182.out (fun _ hk => ⟨hk.1.1.1.1, ⟨hk.1.1.1.2.1, ⟨hk.1.1.1.2.2.1, ⟨hk.1.1.1.2.2.2.1, ⟨hk.1.1.1.2.2.2.2.1, ⟨hk.1.1.1.2.2.2.2.2.1, ⟨hk.1.1.1.2.2.2.2.2.2, ⟨hk.1.1.2, ⟨hk.1.2, hk.2⟩⟩⟩⟩⟩⟩⟩⟩⟩)), (by (with_reducible repeat (first | apply Kd.R_alloc | apply Kd.R_drewN | apply Kd.R_drew)); exact Kd.R_mono HO185.out (fun _ hk => ⟨hk.1.1.1.1, ⟨hk.1.1.1.2.1, ⟨hk.1.1.1.2.2.1, ⟨hk.1.1.1.2.2.2.1, ⟨hk.1.1.1.2.2.2.2.1, ⟨hk.1.1.1.2.2.2.2.2.1, ⟨hk.1.1.1.2.2.2.2.2.2, ⟨hk.1.1.2, ⟨hk.1.2, hk.2⟩⟩⟩⟩⟩⟩⟩⟩⟩)), (by (with_reducible repeat (first | apply Kd.R_alloc | apply Kd.R_drewN | apply Kd.R_drew)); exact Kd.R_mono HO190.out (fun _ hk => ⟨hk.1.1.1.1, ⟨hk.1.1.1.2.1, ⟨hk.1.1.1.2.2.1, ⟨hk.1.1.1.2.2.2.1, ⟨hk.1.1.1.2.2.2.2.1, ⟨hk.1.1.1.2.2.2.2.2.1, ⟨hk.1.1.1.2.2.2.2.2.2, ⟨hk.1.1.2, ⟨hk.1.2, hk.2⟩⟩⟩⟩⟩⟩⟩⟩⟩)), (by (with_reducible repeat (first | apply Kd.R_alloc | apply Kd.R_drewN | apply Kd.R_drew)); exact Kd.R_mono HO194.out (fun _ hk => ⟨hk.1.1.1.1, ⟨hk.1.1.1.2.1, ⟨hk.1.1.1.2.2.1, ⟨hk.1.1.1.2.2.2.1, ⟨hk.1.1.1.2.2.2.2.1, ⟨hk.1.1.1.2.2.2.2.2.1, ⟨hk.1.1.1.2.2.2.2.2.2, ⟨hk.1.1.2, ⟨hk.1.2, hk.2⟩⟩⟩⟩⟩⟩⟩⟩⟩)), (by (with_reducible repeat (first | apply Kd.R_alloc | apply Kd.R_drewN | apply Kd.R_drew)); exact Kd.R_mono HO198.out (fun _ hk => ⟨hk.1.1.1.1, ⟨hk.1.1.1.2.1, ⟨hk.1.1.1.2.2.1, ⟨hk.1.1.1.2.2.2.1, ⟨hk.1.1.1.2.2.2.2.1, ⟨hk.1.1.1.2.2.2.2.2.1, ⟨hk.1.1.1.2.2.2.2.2.2, ⟨hk.1.1.2, ⟨hk.1.2, hk.2⟩⟩⟩⟩⟩⟩⟩⟩⟩)), (by (with_reducible repeat (first | apply Kd.R_alloc | apply Kd.R_drewN | apply Kd.R_drew)); exact Kd.R_mono HO204.out (fun _ hk => ⟨hk.1.1.1.1, ⟨hk.1.1.1.2.1, ⟨hk.1.1.1.2.2.1, ⟨hk.1.1.1.2.2.2.1, ⟨hk.1.1.1.2.2.2.2.1, ⟨hk.1.1.1.2.2.2.2.2.1, ⟨hk.1.1.1.2.2.2.2.2.2, ⟨hk.1.1.2, ⟨hk.1.2, hk.2⟩⟩⟩⟩⟩⟩⟩⟩⟩)), (by (with_reducible repeat (first | apply Kd.R_alloc | apply Kd.R_drewN | apply Kd.R_drew)); exact Kd.R_mono HO208.out (fun _ hk => ⟨hk.1.1.1.1, ⟨hk.1.1.1.2.1, ⟨hk.1.1.1.2.2.1, ⟨hk.1.1.1.2.2.2.1, ⟨hk.1.1.1.2.2.2.2.1, ⟨hk.1.1.1.2.2.2.2.2.1, ⟨hk.1.1.1.2.2.2.2.2.2, ⟨hk.1.1.2, ⟨hk.1.2, hk.2⟩⟩⟩⟩⟩⟩⟩⟩⟩)), (by (with_reducible repeat (first | apply Kd.R_alloc | apply Kd.R_drewN | apply Kd.R_drew)); exact Kd.R_mono HO220.out (fun _ hk => ⟨hk.1.1.1.1.1.1.1.1.1.2, ⟨hk.1.1.1.1.1.1.1.1.2, ⟨hk.1.1.1.1.1.1.1.2, ⟨hk.1.1.1.1.1.1.2, ⟨hk.1.1.1.1.1.2, ⟨hk.1.1.1.1.2, ⟨hk.1.1.1.2, ⟨hk.1.1.2, ⟨hk.1.2, hk.2⟩⟩⟩⟩⟩⟩⟩⟩⟩)), (by (with_reducible repeat (first | apply Kd.R_alloc | apply Kd.R_drewN | apply Kd.R_drew)); exact Kd.R_mono HO223.out (fun _ hk => ⟨hk.1.1.1.1.1.1.1.1.1.2, ⟨hk.1.1.1.1.1.1.1.1.2, ⟨hk.1.1.1.1.1.1.1.2, ⟨hk.1.1.1.1.1.1.2, ⟨hk.1.1.1.1.1.2, ⟨hk.1.1.1.1.2, ⟨hk.1.1.1.2, ⟨hk.1.1.2, ⟨hk.1.2, hk.2⟩⟩⟩⟩⟩⟩⟩⟩⟩)), (by (with_reducible repeat (first | apply Kd.R_alloc | apply Kd.R_drewN | apply Kd.R_drew)); exact Kd.R_mono HO226.out (fun _ hk => ⟨hk.1.1.1.1.1.1.1.1.1.2, ⟨hk.1.1.1.1.1.1.1.1.2, ⟨hk.1.1.1.1.1.1.1.2, ⟨hk.1.1.1.1.1.1.2, ⟨hk.1.1.1.1.1.2, ⟨hk.1.1.1.1.2, ⟨hk.1.1.1.2, ⟨hk.1.1.2, ⟨hk.1.2, hk.2⟩⟩⟩⟩⟩⟩⟩⟩⟩)), (kB BK173), (kB BK174), (kB BK187), (kB BK191), (kB BK195), (kB BK200), (kB BK228), GW228.out, GE228.out, NB173_228.out, NB228_173.out, NB174_228.out, NB228_174.out, NB187_228.out, NB228_187.out, NB191_228.out, NB228_191.out, NB195_228.out, NB228_195.out, NB200_228.out, NB228_200.out, (bB HB)⟩)
                ·skip
                 refine box_step ?hg (N := 15) ?hd (cs := #[.slice none 0 0]) (t := 32) ?hr ?_; (case hd => rfl); (case hg => rfl); (case hr => first | (go_simp; done) | (go_simp; rfl))
                 intro gb228 hg w120 hbox hb
                 replace HO179 := Aside0.mk (Kd.R_below (aR HO179) hb)
                 replace HO182 := Aside0.mk (Kd.R_below (aR HO182) hb)
                 replace HO185 := Aside0.mk (Kd.R_below (aR HO185) hb)
                 replace HO190 := Aside0.mk (Kd.R_below (aR HO190) hb)
                 replace HO194 := Aside0.mk (Kd.R_below (aR HO194) hb)
                 replace HO198 := Aside0.mk (Kd.R_below (aR HO198) hb)
                 replace HO204 := Aside0.mk (Kd.R_below (aR HO204) hb)
                 replace HO208 := Aside0.mk (Kd.R_below (aR HO208) hb)
                 have BK228 := Aside0.mk (hbox)
                 have GW228 := Aside0.mk ((by rw [hg]; exact (below_size (bB HB)) : w.heap.size ≤ gb228))
                 have GE228 := Aside0.mk ((by rw [hg]; exact (below_size (bB HB)) : w.heap.size ≤ gb228))
                 replace HB := Aside0.mk (below_step (bB HB) hb)
                 have NB173_228 := Aside0.mk ((by rw [hg]; exact Nat.ne_of_lt (blk_lt (g := gb173) (o := .cells #[.slice A0_0 l0_0.length c0_0] 29 (0, 0)) (kB BK173)) : gb173 ≠ gb228))
                 have NB228_173 := Aside0.mk ((by rw [hg]; exact Nat.ne_of_gt (blk_lt (g := gb173) (o := .cells #[.slice A0_0 l0_0.length c0_0] 29 (0, 0)) (kB BK173)) : gb228 ≠ gb173))
                 replace BK173 := Aside0.mk (blk_below (g := gb173) (o := .cells #[.slice A0_0 l0_0.length c0_0] 29 (0, 0)) (kB BK173) hb)
                 have NB174_228 := Aside0.mk ((by rw [hg]; exact Nat.ne_of_lt (blk_lt (g := gb174) (o := .cells #[.slice A1_0 l1_0.length c1_0] 29 (0, 0)) (kB BK174)) : gb174 ≠ gb228))
                 have NB228_174 := Aside0.mk ((by rw [hg]; exact Nat.ne_of_gt (blk_lt (g := gb174) (o := .cells #[.slice A1_0 l1_0.length c1_0] 29 (0, 0)) (kB BK174)) : gb228 ≠ gb174))
                 replace BK174 := Aside0.mk (blk_below (g := gb174) (o := .cells #[.slice A1_0 l1_0.length c1_0] 29 (0, 0)) (kB BK174) hb)
                 have NB187_228 := Aside0.mk ((by rw [hg]; exact Nat.ne_of_lt (blk_lt (g := gb187) (o := .cells #[.slice Ao67 t183.length co67] 32 (0, 0)) (kB BK187)) : gb187 ≠ gb228))
                 have NB228_187 := Aside0.mk ((by rw [hg]; exact Nat.ne_of_gt (blk_lt (g := gb187) (o := .cells #[.slice Ao67 t183.length co67] 32 (0, 0)) (kB BK187)) : gb228 ≠ gb187))
                 replace BK187 := Aside0.mk (blk_below (g := gb187) (o := .cells #[.slice Ao67 t183.length co67] 32 (0, 0)) (kB BK187) hb)
                 have NB191_228 := Aside0.mk ((by rw [hg]; exact Nat.ne_of_lt (blk_lt (g := gb191) (o := .cells #[.slice Ao73 t188.length co73] 32 (0, 0)) (kB BK191)) : gb191 ≠ gb228))
                 have NB228_191 := Aside0.mk ((by rw [hg]; exact Nat.ne_of_gt (blk_lt (g := gb191) (o := .cells #[.slice Ao73 t188.length co73] 32 (0, 0)) (kB BK191)) : gb228 ≠ gb191))
                 replace BK191 := Aside0.mk (blk_below (g := gb191) (o := .cells #[.slice Ao73 t188.length co73] 32 (0, 0)) (kB BK191) hb)
                 have NB195_228 := Aside0.mk ((by rw [hg]; exact Nat.ne_of_lt (blk_lt (g := gb195) (o := .cells #[.slice Ao82 t192.length co82] 32 (0, 0)) (kB BK195)) : gb195 ≠ gb228))
                 have NB228_195 := Aside0.mk ((by rw [hg]; exact Nat.ne_of_gt (blk_lt (g := gb195) (o := .cells #[.slice Ao82 t192.length co82] 32 (0, 0)) (kB BK195)) : gb228 ≠ gb195))
                 replace BK195 := Aside0.mk (blk_below (g := gb195) (o := .cells #[.slice Ao82 t192.length co82] 32 (0, 0)) (kB BK195) hb)
                 have NB200_228 := Aside0.mk ((by rw [hg]; exact Nat.ne_of_lt (blk_lt (g := gb200) (o := .cells #[.slice Ao91 t196.length co91] 32 (0, 0)) (kB BK200)) : gb200 ≠ gb228))
                 have NB228_200 := Aside0.mk ((by rw [hg]; exact Nat.ne_of_gt (blk_lt (g := gb200) (o := .cells #[.slice Ao91 t196.length co91] 32 (0, 0)) (kB BK200)) : gb228 ≠ gb200))
                 replace BK200 := Aside0.mk (blk_below (g := gb200) (o := .cells #[.slice Ao91 t196.length co91] 32 (0, 0)) (kB BK200) hb)
                 clear hb hbox hg
                 refine hK.out _ _ ⟨(blk_cell BK173.out 0).trans rfl, (blk_cell BK174.out 0).trans rfl⟩ (fun hHeld => ?_)
                 clear hK K
                 refine norm_ (a' := ?_) ?_ ?_
                 rotate_left
                 ·show Act.put _ (some 15) _ = _
                  simp only [Act.put, List.setIfInBounds_toArray, List.set_cons_zero, List.set_cons_succ, i64_w, i32_w]
                  rfl
                 refine one_ (i := 1) (N := some 96) #[true, true, true, false, false, false, false, false, true, false, false] rfl rfl (one_of HT_.out (by kernel_rfl)) (by decide) (fun K hK => ?_)
                 refine goes_ Try.func17 (by kernel_rfl) rfl #[.agg #[.slice A0_0 l0_0.length c0_0]] (by rfl) rfl rfl (by (try simp only [List.map_toArray, List.map_cons, List.map_nil]); first | done | rfl | (simp only [List.length_drop, List.length_take]; rfl)) ?_
                 with_reducible refine (laws_toFilter.calls k _ _ l0_0 t218 _ ?side1 ?side2 A43.out).mono ?_
                 (case side1 => repeat (first | exact (Kd.C_below HR0_0.out HB.out) | (with_reducible refine Kd.C_alloc ?_ _) | (with_reducible refine Kd.C_drewN ?_ _) | (with_reducible refine Kd.C_drew ?_)))
                 (case side2 => exact HC0_0.out)
                 rintro e w121 ⟨v219, rfl, ho0, hb⟩
                 refine ⟨_, rfl, ?_⟩
                 have HO220 := Aside0.mk (Kd.R_lower (Kd.R_new' (Kd.R_new' (Kd.R_new' (Kd.R_new' (Kd.R_new' (Kd.R_new' (Kd.R_new' (Kd.R_new' ho0 (Kd.R_lt (aR HO179))) (Kd.R_lt (aR HO182))) (Kd.R_lt (aR HO185))) (Kd.R_lt (aR HO190))) (Kd.R_lt (aR HO194))) (Kd.R_lt (aR HO198))) (Kd.R_lt (aR HO204))) (Kd.R_lt (aR HO208))) (below_size (bB HB)))
                 replace HO179 := Aside0.mk (Kd.R_elder' (aR HO179) (Kd.R_base ho0) hb)
                 replace HO182 := Aside0.mk (Kd.R_elder' (aR HO182) (Kd.R_base ho0) hb)
                 replace HO185 := Aside0.mk (Kd.R_elder' (aR HO185) (Kd.R_base ho0) hb)
                 replace HO190 := Aside0.mk (Kd.R_elder' (aR HO190) (Kd.R_base ho0) hb)
                 replace HO194 := Aside0.mk (Kd.R_elder' (aR HO194) (Kd.R_base ho0) hb)
                 replace HO198 := Aside0.mk (Kd.R_elder' (aR HO198) (Kd.R_base ho0) hb)
                 replace HO204 := Aside0.mk (Kd.R_elder' (aR HO204) (Kd.R_base ho0) hb)
                 replace HO208 := Aside0.mk (Kd.R_elder' (aR HO208) (Kd.R_base ho0) hb)
                 replace BK173 := Aside0.mk (blk_below (g := gb173) (o := .cells #[.slice A0_0 l0_0.length c0_0] 29 (0, 0)) (kB BK173) hb)
                 replace BK174 := Aside0.mk (blk_below (g := gb174) (o := .cells #[.slice A1_0 l1_0.length c1_0] 29 (0, 0)) (kB BK174) hb)
                 replace BK187 := Aside0.mk (blk_below (g := gb187) (o := .cells #[.slice Ao67 t183.length co67] 32 (0, 0)) (kB BK187) hb)
                 replace BK191 := Aside0.mk (blk_below (g := gb191) (o := .cells #[.slice Ao73 t188.length co73] 32 (0, 0)) (kB BK191) hb)
                 replace BK195 := Aside0.mk (blk_below (g := gb195) (o := .cells #[.slice Ao82 t192.length co82] 32 (0, 0)) (kB BK195) hb)
                 replace BK200 := Aside0.mk (blk_below (g := gb200) (o := .cells #[.slice Ao91 t196.length co91] 32 (0, 0)) (kB BK200) hb)
                 replace BK228 := Aside0.mk (blk_below (g := gb228) (o := .cells #[.slice none 0 0] 32 (0, 0)) (kB BK228) hb)
                 replace HB := Aside0.mk (below_step (bB HB) hb)
                 (try clear hb);(try clear hb2);(try clear hk);(try clear hi);(try clear ho0)
                 refine hK.out _ _ ⟨(blk_cell BK173.out 0).trans rfl, (blk_cell BK174.out 0).trans rfl⟩ (fun hHeld => ?_)
                 clear hK K
                 refine norm_ (a' := ?_) ?_ ?_
                 rotate_left
                 ·show Act.put _ (some 96) _ = _
                  simp only [Act.put, List.setIfInBounds_toArray, List.set_cons_zero, List.set_cons_succ, i64_w, i32_w]
                  rfl
                 refine one_ (i := 3) (N := some 98) #[true, true, true, true, false, false, false, false, true, false, false] rfl rfl (one_of HT_.out (by kernel_rfl)) (by decide) (fun K hK => ?_)
                 refine goes_ Try.func17 (by kernel_rfl) rfl #[.agg #[.slice A1_0 l1_0.length c1_0]] (by rfl) rfl rfl (by (try simp only [List.map_toArray, List.map_cons, List.map_nil]); first | done | rfl | (simp only [List.length_drop, List.length_take]; rfl)) ?_
                 with_reducible refine (laws_toFilter.calls k _ _ l1_0 t221 _ ?side1 ?side2 A44.out).mono ?_
                 (case side1 => repeat (first | exact (Kd.C_below HR1_0.out HB.out) | (with_reducible refine Kd.C_alloc ?_ _) | (with_reducible refine Kd.C_drewN ?_ _) | (with_reducible refine Kd.C_drew ?_)))
                 (case side2 => exact HC1_0.out)
                 rintro e w122 ⟨v222, rfl, ho0, hb⟩
                 refine ⟨_, rfl, ?_⟩
                 have HO223 := Aside0.mk (Kd.R_lower (Kd.R_new' (Kd.R_new' (Kd.R_new' (Kd.R_new' (Kd.R_new' (Kd.R_new' (Kd.R_new' (Kd.R_new' (Kd.R_new' ho0 (Kd.R_lt (aR HO179))) (Kd.R_lt (aR HO182))) (Kd.R_lt (aR HO185))) (Kd.R_lt (aR HO190))) (Kd.R_lt (aR HO194))) (Kd.R_lt (aR HO198))) (Kd.R_lt (aR HO204))) (Kd.R_lt (aR HO208))) (Kd.R_lt (aR HO220))) (below_size (bB HB)))
                 replace HO179 := Aside0.mk (Kd.R_elder' (aR HO179) (Kd.R_base ho0) hb)
                 replace HO182 := Aside0.mk (Kd.R_elder' (aR HO182) (Kd.R_base ho0) hb)
                 replace HO185 := Aside0.mk (Kd.R_elder' (aR HO185) (Kd.R_base ho0) hb)
                 replace HO190 := Aside0.mk (Kd.R_elder' (aR HO190) (Kd.R_base ho0) hb)
                 replace HO194 := Aside0.mk (Kd.R_elder' (aR HO194) (Kd.R_base ho0) hb)
                 replace HO198 := Aside0.mk (Kd.R_elder' (aR HO198) (Kd.R_base ho0) hb)
                 replace HO204 := Aside0.mk (Kd.R_elder' (aR HO204) (Kd.R_base ho0) hb)
                 replace HO208 := Aside0.mk (Kd.R_elder' (aR HO208) (Kd.R_base ho0) hb)
                 replace HO220 := Aside0.mk (Kd.R_elder' (aR HO220) (Kd.R_base ho0) hb)
                 replace BK173 := Aside0.mk (blk_below (g := gb173) (o := .cells #[.slice A0_0 l0_0.length c0_0] 29 (0, 0)) (kB BK173) hb)
                 replace BK174 := Aside0.mk (blk_below (g := gb174) (o := .cells #[.slice A1_0 l1_0.length c1_0] 29 (0, 0)) (kB BK174) hb)
                 replace BK187 := Aside0.mk (blk_below (g := gb187) (o := .cells #[.slice Ao67 t183.length co67] 32 (0, 0)) (kB BK187) hb)
                 replace BK191 := Aside0.mk (blk_below (g := gb191) (o := .cells #[.slice Ao73 t188.length co73] 32 (0, 0)) (kB BK191) hb)
                 replace BK195 := Aside0.mk (blk_below (g := gb195) (o := .cells #[.slice Ao82 t192.length co82] 32 (0, 0)) (kB BK195) hb)
                 replace BK200 := Aside0.mk (blk_below (g := gb200) (o := .cells #[.slice Ao91 t196.length co91] 32 (0, 0)) (kB BK200) hb)
                 replace BK228 := Aside0.mk (blk_below (g := gb228) (o := .cells #[.slice none 0 0] 32 (0, 0)) (kB BK228) hb)
                 replace HB := Aside0.mk (below_step (bB HB) hb)
                 (try clear hb);(try clear hb2);(try clear hk);(try clear hi);(try clear ho0)
                 obtain ⟨Ao123, co123, eo123⟩ := Kd.R_slice HO220.out
                 (first | subst eo123 | (injection eo123 with f1_ f2_ f3_; have f4_ := f1_.symm; have f5_ := f3_.symm; clear f1_ f2_ f3_; subst f4_; subst f5_))
                 obtain ⟨Ao124, co124, eo124⟩ := Kd.R_slice HO223.out
                 (first | subst eo124 | (injection eo124 with f1_ f2_ f3_; have f4_ := f1_.symm; have f5_ := f3_.symm; clear f1_ f2_ f3_; subst f4_; subst f5_))
                 refine hK.out _ _ ⟨(blk_cell BK173.out 0).trans rfl, (blk_cell BK174.out 0).trans rfl⟩ (fun hHeld => ?_)
                 clear hK K
                 refine norm_ (a' := ?_) ?_ ?_
                 rotate_left
                 ·show Act.put _ (some 98) _ = _
                  simp only [Act.put, List.setIfInBounds_toArray, List.set_cons_zero, List.set_cons_succ, i64_w, i32_w]
                  rfl
                 refine one_ (i := 4) (N := some 99) #[true, true, true, true, true, false, false, false, true, false, false] rfl rfl (one_of HT_.out (by kernel_rfl)) (by decide) (fun K hK => ?_)
                 refine goes_ Try.func25 (by kernel_rfl) rfl #[.agg #[.slice Ao123 t218.length co123], .agg #[.slice Ao124 t221.length co124]] (by rfl) rfl rfl (by (try simp only [List.map_toArray, List.map_cons, List.map_nil]); first | done | rfl | (simp only [List.length_drop, List.length_take]; rfl)) ?_
                 with_reducible refine (impl_MeetFilters.calls k _ _ t218 _ _ t221 t224 t227 _ ?side1 ?side2 ?side3 ?side4 A45.out).mono ?_
                 (case side1 => repeat (first | exact (Kd.R_reads' HO220.out).2.2 | (with_reducible refine Kd.C_alloc ?_ _) | (with_reducible refine Kd.C_drewN ?_ _) | (with_reducible refine Kd.C_drew ?_)))
                 (case side2 => exact (Kd.R_reads' HO220.out).2.1)
                 (case side3 => repeat (first | exact (Kd.R_reads' HO223.out).2.2 | (with_reducible refine Kd.C_alloc ?_ _) | (with_reducible refine Kd.C_drewN ?_ _) | (with_reducible refine Kd.C_drew ?_)))
                 (case side4 => exact (Kd.R_reads' HO223.out).2.1)
                 rintro e w125 ⟨v225, rfl, ho0, hb⟩
                 refine ⟨_, rfl, ?_⟩
                 have HO226 := Aside0.mk (Kd.R_lower (Kd.R_new' (Kd.R_new' (Kd.R_new' (Kd.R_new' (Kd.R_new' (Kd.R_new' (Kd.R_new' (Kd.R_new' (Kd.R_new' (Kd.R_new' ho0 (Kd.R_lt (aR HO179))) (Kd.R_lt (aR HO182))) (Kd.R_lt (aR HO185))) (Kd.R_lt (aR HO190))) (Kd.R_lt (aR HO194))) (Kd.R_lt (aR HO198))) (Kd.R_lt (aR HO204))) (Kd.R_lt (aR HO208))) (Kd.R_lt (aR HO220))) (Kd.R_lt (aR HO223))) (below_size (bB HB)))
                 replace HO179 := Aside0.mk (Kd.R_elder' (aR HO179) (Kd.R_base ho0) hb)
                 replace HO182 := Aside0.mk (Kd.R_elder' (aR HO182) (Kd.R_base ho0) hb)
                 replace HO185 := Aside0.mk (Kd.R_elder' (aR HO185) (Kd.R_base ho0) hb)
                 replace HO190 := Aside0.mk (Kd.R_elder' (aR HO190) (Kd.R_base ho0) hb)
                 replace HO194 := Aside0.mk (Kd.R_elder' (aR HO194) (Kd.R_base ho0) hb)
                 replace HO198 := Aside0.mk (Kd.R_elder' (aR HO198) (Kd.R_base ho0) hb)
                 replace HO204 := Aside0.mk (Kd.R_elder' (aR HO204) (Kd.R_base ho0) hb)
                 replace HO208 := Aside0.mk (Kd.R_elder' (aR HO208) (Kd.R_base ho0) hb)
                 replace HO220 := Aside0.mk (Kd.R_elder' (aR HO220) (Kd.R_base ho0) hb)
                 replace HO223 := Aside0.mk (Kd.R_elder' (aR HO223) (Kd.R_base ho0) hb)
                 replace BK173 := Aside0.mk (blk_below (g := gb173) (o := .cells #[.slice A0_0 l0_0.length c0_0] 29 (0, 0)) (kB BK173) hb)
                 replace BK174 := Aside0.mk (blk_below (g := gb174) (o := .cells #[.slice A1_0 l1_0.length c1_0] 29 (0, 0)) (kB BK174) hb)
                 replace BK187 := Aside0.mk (blk_below (g := gb187) (o := .cells #[.slice Ao67 t183.length co67] 32 (0, 0)) (kB BK187) hb)
                 replace BK191 := Aside0.mk (blk_below (g := gb191) (o := .cells #[.slice Ao73 t188.length co73] 32 (0, 0)) (kB BK191) hb)
                 replace BK195 := Aside0.mk (blk_below (g := gb195) (o := .cells #[.slice Ao82 t192.length co82] 32 (0, 0)) (kB BK195) hb)
                 replace BK200 := Aside0.mk (blk_below (g := gb200) (o := .cells #[.slice Ao91 t196.length co91] 32 (0, 0)) (kB BK200) hb)
                 replace BK228 := Aside0.mk (blk_below (g := gb228) (o := .cells #[.slice none 0 0] 32 (0, 0)) (kB BK228) hb)
                 replace HB := Aside0.mk (below_step (bB HB) hb)
                 (try clear hb);(try clear hb2);(try clear hk);(try clear hi);(try clear ho0)
                 refine hK.out _ _ ⟨(blk_cell BK173.out 0).trans rfl, (blk_cell BK174.out 0).trans rfl⟩ (fun hHeld => ?_)
                 clear hK K
                 refine norm_ (a' := ?_) ?_ ?_
                 rotate_left
                 ·show Act.put _ (some 99) _ = _
                  simp only [Act.put, List.setIfInBounds_toArray, List.set_cons_zero, List.set_cons_succ, i64_w, i32_w]
                  rfl
                 refine pure_ (i := 5) (N := some 94) (v := ?_) (a' := ?_) #[true, true, true, true, true, true, false, false, true, false, false] rfl rfl (any_of HT_.out (by kernel_rfl)) (fun _ _ _ h => h) (Or.inl ⟨by rfl, ?_⟩) ?_ ?_
                 rotate_left
                 ·intro w'
                  go_simp
                  with_reducible rfl
                 rotate_left
                 ·simp only [Act.put, List.setIfInBounds_toArray, List.set_cons_zero, List.set_cons_succ, i64_w, i32_w]
                  rfl
                 refine pure_ (i := 6) (N := some 100) (v := ?_) (a' := ?_) #[true, true, true, true, true, true, true, false, true, false, false] rfl rfl (any_of HT_.out (by kernel_rfl)) (fun _ _ _ h => h) (Or.inl ⟨by rfl, ?_⟩) ?_ ?_
                 rotate_left
                 ·intro w'
                  go_simp
                  with_reducible rfl
                 rotate_left
                 ·simp only [Act.put, List.setIfInBounds_toArray, List.set_cons_zero, List.set_cons_succ, i64_w, i32_w]
                  rfl
                 refine pure_ (i := 7) (N := some 101) (v := ?_) (a' := ?_) #[true, true, true, true, true, true, true, true, true, false, false] rfl rfl (any_of HT_.out (by kernel_rfl)) (fun _ _ _ h => h) (Or.inl ⟨by rfl, ?_⟩) ?_ ?_
                 rotate_left
                 ·intro w'
                  go_simp
                  with_reducible rfl
                 rotate_left
                 ·simp only [Act.put, List.setIfInBounds_toArray, List.set_cons_zero, List.set_cons_succ, i64_w, i32_w]
                  rfl
                 exact norm_ (by simp only [putAll, Act.put, List.setIfInBounds_toArray, List.set_cons_zero, List.set_cons_succ]) (hCont (.slice Ao123 t218.length co123, .slice Ao124 t221.length co124, v225, gb228) _ ⟨hHeld, (by (with_reducible repeat (first | apply Kd.R_alloc | apply Kd.R_drewN | apply Kd.R_drew)); exact Kd.R_mono HO179.out (fun _ hk => ⟨hk.1.1.1.1, ⟨hk.1.1.1.2.1, ⟨hk.1.1.1.2.2.1, ⟨hk.1.1.1.2.2.2.1, ⟨hk.1.1.1.2.2.2.2.1, ⟨hk.1.1.1.2.2.2.2.2.1, ⟨hk.1.1.1.2.2.2.2.2.2, ⟨hk.1.1.2, ⟨hk.1.2, hk.2⟩⟩⟩⟩⟩⟩⟩⟩⟩)), (by (with_reducible repeat (first | apply Kd.R_alloc | apply Kd.R_drewN | apply Kd.R_drew)); exact Kd.R_mono HO182.out (fun _ hk => ⟨hk.1.1.1.1, ⟨hk.1.1.1.2.1, ⟨hk.1.1.1.2.2.1, ⟨hk.1.1.1.2.2.2.1, ⟨hk.1.1.1.2.2.2.2.1, ⟨hk.1.1.1.2.2.2.2.2.1, ⟨hk.1.1.1.2.2.2.2.2.2, ⟨hk.1.1.2, ⟨hk.1.2, hk.2⟩⟩⟩⟩⟩⟩⟩⟩⟩)), (by (with_reducible repeat (first | apply Kd.R_alloc | apply Kd.R_drewN | apply Kd.R_drew)); exact Kd.R_mono HO185.out (fun _ hk => ⟨hk.1.1.1.1, ⟨hk.1.1.1.2.1, ⟨hk.1.1.1.2.2.1, ⟨hk.1.1.1.2.2.2.1, ⟨hk.1.1.1.2.2.2.2.1, ⟨hk.1.1.1.2.2.2.2.2.1, ⟨hk.1.1.1.2.2.2.2.2.2, ⟨hk.1.1.2, ⟨hk.1.2, hk.2⟩⟩⟩⟩⟩⟩⟩⟩⟩)), (by (with_reducible repeat (first | apply Kd.R_alloc | apply Kd.R_drewN | apply Kd.R_drew)); exact Kd.R_mono HO190.out (fun _ hk => ⟨hk.1.1.1.1, ⟨hk.1.1.1.2.1, ⟨hk.1.1.1.2.2.1, ⟨hk.1.1.1.2.2.2.1, ⟨hk.1.1.1.2.2.2.2.1, ⟨hk.1.1.1.2.2.2.2.2.1, ⟨hk.1.1.1.2.2.2.2.2.2, ⟨hk.1.1.2, ⟨hk.1.2, hk.2⟩⟩⟩⟩⟩⟩⟩⟩⟩)), (by (with_reducible repeat (first | apply Kd.R_alloc | apply Kd.R_drewN | apply Kd.R_drew)); exact Kd.R_mono HO194.out (fun _ hk => ⟨hk.1.1.1.1, ⟨hk.1.1.1.2.1, ⟨hk.1.1.1.2.2.1, ⟨hk.1.1.1.2.2.2.1, ⟨hk.1.1.1.2.2.2.2.1, ⟨hk.1.1.1.2.2.2.2.2.1, ⟨hk.1.1.1.2.2.2.2.2.2, ⟨hk.1.1.2, ⟨hk.1.2, hk.2⟩⟩⟩⟩⟩⟩⟩⟩⟩)), (by (with_reducible repeat (first | apply Kd.R_alloc | apply Kd.R_drewN | apply Kd.R_drew)); exact Kd.R_mono HO198.out (fun _ hk => ⟨hk.1.1.1.1, ⟨hk.1.1.1.2.1, ⟨hk.1.1.1.2.2.1, ⟨hk.1.1.1.2.2.2.1, ⟨hk.1.1.1.2.2.2.2.1, ⟨hk.1.1.1.2.2.2.2.2.1, ⟨hk.1.1.1.2.2.2.2.2.2, ⟨hk.1.1.2, ⟨hk.1.2, hk.2⟩⟩⟩⟩⟩⟩⟩⟩⟩)), (by (with_reducible repeat (first | apply Kd.R_alloc | apply Kd.R_drewN | apply Kd.R_drew)); exact Kd.R_mono HO204.out (fun _ hk => ⟨hk.1.1.1.1, ⟨hk.1.1.1.2.1, ⟨hk.1.1.1.2.2.1, ⟨hk.1.1.1.2.2.2.1, ⟨hk.1.1.1.2.2.2.2.1, ⟨hk.1.1.1.2.2.2.2.2.1, ⟨hk.1.1.1.2.2.2.2.2.2, ⟨hk.1.1.2, ⟨hk.1.2, hk.2⟩⟩⟩⟩⟩⟩⟩⟩⟩)), (by (with_reducible repeat (first | apply Kd.R_alloc | apply Kd.R_drewN | apply Kd.R_drew)); exact Kd.R_mono HO208.out (fun _ hk => ⟨hk.1.1.1.1, ⟨hk.1.1.1.2.1, ⟨hk.1.1.1.2.2.1, ⟨hk.1.1.1.2.2.2.1, ⟨hk.1.1.1.2.2.2.2.1, ⟨hk.1.1.1.2.2.2.2.2.1, ⟨hk.1.1.1.2.2.2.2.2.2, ⟨hk.1.1.2, ⟨hk.1.2, hk.2⟩⟩⟩⟩⟩⟩⟩⟩⟩)), (by (with_reducible repeat (first | apply Kd.R_alloc | apply Kd.R_drewN | apply Kd.R_drew)); exact Kd.R_mono HO220.out (fun _ hk => ⟨hk.1.1.1.1.1.1.1.1.1.2, ⟨hk.1.1.1.1.1.1.1.1.2, ⟨hk.1.1.1.1.1.1.1.2, ⟨hk.1.1.1.1.1.1.2, ⟨hk.1.1.1.1.1.2, ⟨hk.1.1.1.1.2, ⟨hk.1.1.1.2, ⟨hk.1.1.2, ⟨hk.1.2, hk.2⟩⟩⟩⟩⟩⟩⟩⟩⟩)), (by (with_reducible repeat (first | apply Kd.R_alloc | apply Kd.R_drewN | apply Kd.R_drew)); exact Kd.R_mono HO223.out (fun _ hk => ⟨hk.1.1.1.1.1.1.1.1.1.2, ⟨hk.1.1.1.1.1.1.1.1.2, ⟨hk.1.1.1.1.1.1.1.2, ⟨hk.1.1.1.1.1.1.2, ⟨hk.1.1.1.1.1.2, ⟨hk.1.1.1.1.2, ⟨hk.1.1.1.2, ⟨hk.1.1.2, ⟨hk.1.2, hk.2⟩⟩⟩⟩⟩⟩⟩⟩⟩)), (by (with_reducible repeat (first | apply Kd.R_alloc | apply Kd.R_drewN | apply Kd.R_drew)); exact Kd.R_mono HO226.out (fun _ hk => ⟨hk.1.1.1.1.1.1.1.1.1.2, ⟨hk.1.1.1.1.1.1.1.1.2, ⟨hk.1.1.1.1.1.1.1.2, ⟨hk.1.1.1.1.1.1.2, ⟨hk.1.1.1.1.1.2, ⟨hk.1.1.1.1.2, ⟨hk.1.1.1.2, ⟨hk.1.1.2, ⟨hk.1.2, hk.2⟩⟩⟩⟩⟩⟩⟩⟩⟩)), (kB BK173), (kB BK174), (kB BK187), (kB BK191), (kB BK195), (kB BK200), (kB BK228), GW228.out, GE228.out, NB173_228.out, NB228_173.out, NB174_228.out, NB228_174.out, NB187_228.out, NB228_187.out, NB191_228.out, NB228_191.out, NB195_228.out, NB228_195.out, NB200_228.out, NB228_200.out, (bB HB)⟩)
               rintro ⟨v219, v222, v225, gb228⟩ w126 ⟨hS_, h0_, h1_, h2_, h3_, h4_, h5_, h6_, h7_, h8_, h9_, h10_, h11_, h12_, h13_, h14_, h15_, h16_, h17_, h18_, h19_, h20_, h21_, h22_, h23_, h24_, h25_, h26_, h27_, h28_, h29_, h30_, h31_, h32_⟩
               have n0_ : Aside0 (Kd.R Kd.bool 4 w126 w.heap.size (fun k_ => some k_ ≠ (v181 : Value).ownBlock ∧ some k_ ≠ (.slice Ao67 t183.length co67 : Value).ownBlock ∧ some k_ ≠ (.slice Ao73 t188.length co73 : Value).ownBlock ∧ some k_ ≠ (.slice Ao82 t192.length co82 : Value).ownBlock ∧ some k_ ≠ (.slice Ao91 t196.length co91 : Value).ownBlock ∧ some k_ ≠ (.slice Ao102 t202.length co102 : Value).ownBlock ∧ some k_ ≠ (.slice Ao106 t206.length co106 : Value).ownBlock ∧ some k_ ≠ (v219 : Value).ownBlock ∧ some k_ ≠ (v222 : Value).ownBlock ∧ some k_ ≠ (v225 : Value).ownBlock) v178 t177) := ⟨h0_⟩
               have n1_ : Aside0 (Kd.R Kd.bool 4 w126 w.heap.size (fun k_ => some k_ ≠ (v178 : Value).ownBlock ∧ some k_ ≠ (.slice Ao67 t183.length co67 : Value).ownBlock ∧ some k_ ≠ (.slice Ao73 t188.length co73 : Value).ownBlock ∧ some k_ ≠ (.slice Ao82 t192.length co82 : Value).ownBlock ∧ some k_ ≠ (.slice Ao91 t196.length co91 : Value).ownBlock ∧ some k_ ≠ (.slice Ao102 t202.length co102 : Value).ownBlock ∧ some k_ ≠ (.slice Ao106 t206.length co106 : Value).ownBlock ∧ some k_ ≠ (v219 : Value).ownBlock ∧ some k_ ≠ (v222 : Value).ownBlock ∧ some k_ ≠ (v225 : Value).ownBlock) v181 t180) := ⟨h1_⟩
               have n2_ : Aside0 (Kd.R Kd.bool 4 w126 w.heap.size (fun k_ => some k_ ≠ (v178 : Value).ownBlock ∧ some k_ ≠ (v181 : Value).ownBlock ∧ some k_ ≠ (.slice Ao73 t188.length co73 : Value).ownBlock ∧ some k_ ≠ (.slice Ao82 t192.length co82 : Value).ownBlock ∧ some k_ ≠ (.slice Ao91 t196.length co91 : Value).ownBlock ∧ some k_ ≠ (.slice Ao102 t202.length co102 : Value).ownBlock ∧ some k_ ≠ (.slice Ao106 t206.length co106 : Value).ownBlock ∧ some k_ ≠ (v219 : Value).ownBlock ∧ some k_ ≠ (v222 : Value).ownBlock ∧ some k_ ≠ (v225 : Value).ownBlock) (.slice Ao67 t183.length co67) t183) := ⟨h2_⟩
               have n3_ : Aside0 (Kd.R Kd.bool 4 w126 w.heap.size (fun k_ => some k_ ≠ (v178 : Value).ownBlock ∧ some k_ ≠ (v181 : Value).ownBlock ∧ some k_ ≠ (.slice Ao67 t183.length co67 : Value).ownBlock ∧ some k_ ≠ (.slice Ao82 t192.length co82 : Value).ownBlock ∧ some k_ ≠ (.slice Ao91 t196.length co91 : Value).ownBlock ∧ some k_ ≠ (.slice Ao102 t202.length co102 : Value).ownBlock ∧ some k_ ≠ (.slice Ao106 t206.length co106 : Value).ownBlock ∧ some k_ ≠ (v219 : Value).ownBlock ∧ some k_ ≠ (v222 : Value).ownBlock ∧ some k_ ≠ (v225 : Value).ownBlock) (.slice Ao73 t188.length co73) t211) := ⟨h3_⟩
               have n4_ : Aside0 (Kd.R Kd.bool 4 w126 w.heap.size (fun k_ => some k_ ≠ (v178 : Value).ownBlock ∧ some k_ ≠ (v181 : Value).ownBlock ∧ some k_ ≠ (.slice Ao67 t183.length co67 : Value).ownBlock ∧ some k_ ≠ (.slice Ao73 t188.length co73 : Value).ownBlock ∧ some k_ ≠ (.slice Ao91 t196.length co91 : Value).ownBlock ∧ some k_ ≠ (.slice Ao102 t202.length co102 : Value).ownBlock ∧ some k_ ≠ (.slice Ao106 t206.length co106 : Value).ownBlock ∧ some k_ ≠ (v219 : Value).ownBlock ∧ some k_ ≠ (v222 : Value).ownBlock ∧ some k_ ≠ (v225 : Value).ownBlock) (.slice Ao82 t192.length co82) t213) := ⟨h4_⟩
               have n5_ : Aside0 (Kd.R Kd.bool 4 w126 w.heap.size (fun k_ => some k_ ≠ (v178 : Value).ownBlock ∧ some k_ ≠ (v181 : Value).ownBlock ∧ some k_ ≠ (.slice Ao67 t183.length co67 : Value).ownBlock ∧ some k_ ≠ (.slice Ao73 t188.length co73 : Value).ownBlock ∧ some k_ ≠ (.slice Ao82 t192.length co82 : Value).ownBlock ∧ some k_ ≠ (.slice Ao102 t202.length co102 : Value).ownBlock ∧ some k_ ≠ (.slice Ao106 t206.length co106 : Value).ownBlock ∧ some k_ ≠ (v219 : Value).ownBlock ∧ some k_ ≠ (v222 : Value).ownBlock ∧ some k_ ≠ (v225 : Value).ownBlock) (.slice Ao91 t196.length co91) t216) := ⟨h5_⟩
               have n6_ : Aside0 (Kd.R Kd.bool 4 w126 w.heap.size (fun k_ => some k_ ≠ (v178 : Value).ownBlock ∧ some k_ ≠ (v181 : Value).ownBlock ∧ some k_ ≠ (.slice Ao67 t183.length co67 : Value).ownBlock ∧ some k_ ≠ (.slice Ao73 t188.length co73 : Value).ownBlock ∧ some k_ ≠ (.slice Ao82 t192.length co82 : Value).ownBlock ∧ some k_ ≠ (.slice Ao91 t196.length co91 : Value).ownBlock ∧ some k_ ≠ (.slice Ao106 t206.length co106 : Value).ownBlock ∧ some k_ ≠ (v219 : Value).ownBlock ∧ some k_ ≠ (v222 : Value).ownBlock ∧ some k_ ≠ (v225 : Value).ownBlock) (.slice Ao102 t202.length co102) t202) := ⟨h6_⟩
               have n7_ : Aside0 (Kd.R Kd.bool 4 w126 w.heap.size (fun k_ => some k_ ≠ (v178 : Value).ownBlock ∧ some k_ ≠ (v181 : Value).ownBlock ∧ some k_ ≠ (.slice Ao67 t183.length co67 : Value).ownBlock ∧ some k_ ≠ (.slice Ao73 t188.length co73 : Value).ownBlock ∧ some k_ ≠ (.slice Ao82 t192.length co82 : Value).ownBlock ∧ some k_ ≠ (.slice Ao91 t196.length co91 : Value).ownBlock ∧ some k_ ≠ (.slice Ao102 t202.length co102 : Value).ownBlock ∧ some k_ ≠ (v219 : Value).ownBlock ∧ some k_ ≠ (v222 : Value).ownBlock ∧ some k_ ≠ (v225 : Value).ownBlock) (.slice Ao106 t206.length co106) t206) := ⟨h7_⟩
               have n8_ : Aside0 (Kd.R Kd.bool 4 w126 w.heap.size (fun k_ => some k_ ≠ (v178 : Value).ownBlock ∧ some k_ ≠ (v181 : Value).ownBlock ∧ some k_ ≠ (.slice Ao67 t183.length co67 : Value).ownBlock ∧ some k_ ≠ (.slice Ao73 t188.length co73 : Value).ownBlock ∧ some k_ ≠ (.slice Ao82 t192.length co82 : Value).ownBlock ∧ some k_ ≠ (.slice Ao91 t196.length co91 : Value).ownBlock ∧ some k_ ≠ (.slice Ao102 t202.length co102 : Value).ownBlock ∧ some k_ ≠ (.slice Ao106 t206.length co106 : Value).ownBlock ∧ some k_ ≠ (v222 : Value).ownBlock ∧ some k_ ≠ (v225 : Value).ownBlock) v219 t218) := ⟨h8_⟩
               have n9_ : Aside0 (Kd.R Kd.bool 4 w126 w.heap.size (fun k_ => some k_ ≠ (v178 : Value).ownBlock ∧ some k_ ≠ (v181 : Value).ownBlock ∧ some k_ ≠ (.slice Ao67 t183.length co67 : Value).ownBlock ∧ some k_ ≠ (.slice Ao73 t188.length co73 : Value).ownBlock ∧ some k_ ≠ (.slice Ao82 t192.length co82 : Value).ownBlock ∧ some k_ ≠ (.slice Ao91 t196.length co91 : Value).ownBlock ∧ some k_ ≠ (.slice Ao102 t202.length co102 : Value).ownBlock ∧ some k_ ≠ (.slice Ao106 t206.length co106 : Value).ownBlock ∧ some k_ ≠ (v219 : Value).ownBlock ∧ some k_ ≠ (v225 : Value).ownBlock) v222 t221) := ⟨h9_⟩
               have n10_ : Aside0 (Kd.R Kd.bool 4 w126 w.heap.size (fun k_ => some k_ ≠ (v178 : Value).ownBlock ∧ some k_ ≠ (v181 : Value).ownBlock ∧ some k_ ≠ (.slice Ao67 t183.length co67 : Value).ownBlock ∧ some k_ ≠ (.slice Ao73 t188.length co73 : Value).ownBlock ∧ some k_ ≠ (.slice Ao82 t192.length co82 : Value).ownBlock ∧ some k_ ≠ (.slice Ao91 t196.length co91 : Value).ownBlock ∧ some k_ ≠ (.slice Ao102 t202.length co102 : Value).ownBlock ∧ some k_ ≠ (.slice Ao106 t206.length co106 : Value).ownBlock ∧ some k_ ≠ (v219 : Value).ownBlock ∧ some k_ ≠ (v222 : Value).ownBlock) v225 t224) := ⟨h10_⟩
               have n11_ : Aside0 (w126.heap[gb173]? = some (.cells #[.slice A0_0 l0_0.length c0_0] 29 (0, 0))) := ⟨h11_⟩
               have n12_ : Aside0 (w126.heap[gb174]? = some (.cells #[.slice A1_0 l1_0.length c1_0] 29 (0, 0))) := ⟨h12_⟩
               have n13_ : Aside0 (w126.heap[gb187]? = some (.cells #[.slice Ao67 t183.length co67] 32 (0, 0))) := ⟨h13_⟩
               have n14_ : Aside0 (w126.heap[gb191]? = some (.cells #[.slice Ao73 t188.length co73] 32 (0, 0))) := ⟨h14_⟩
               have n15_ : Aside0 (w126.heap[gb195]? = some (.cells #[.slice Ao82 t192.length co82] 32 (0, 0))) := ⟨h15_⟩
               have n16_ : Aside0 (w126.heap[gb200]? = some (.cells #[.slice Ao91 t196.length co91] 32 (0, 0))) := ⟨h16_⟩
               have n17_ : Aside0 (w126.heap[gb228]? = some (.cells #[.slice none 0 0] 32 (0, 0))) := ⟨h17_⟩
               have n18_ : Aside0 (w.heap.size ≤ gb228) := ⟨h18_⟩
               have n19_ : Aside0 (w.heap.size ≤ gb228) := ⟨h19_⟩
               have n20_ : Aside0 (gb173 ≠ gb228) := ⟨h20_⟩
               have n21_ : Aside0 (gb228 ≠ gb173) := ⟨h21_⟩
               have n22_ : Aside0 (gb174 ≠ gb228) := ⟨h22_⟩
               have n23_ : Aside0 (gb228 ≠ gb174) := ⟨h23_⟩
               have n24_ : Aside0 (gb187 ≠ gb228) := ⟨h24_⟩
               have n25_ : Aside0 (gb228 ≠ gb187) := ⟨h25_⟩
               have n26_ : Aside0 (gb191 ≠ gb228) := ⟨h26_⟩
               have n27_ : Aside0 (gb228 ≠ gb191) := ⟨h27_⟩
               have n28_ : Aside0 (gb195 ≠ gb228) := ⟨h28_⟩
               have n29_ : Aside0 (gb228 ≠ gb195) := ⟨h29_⟩
               have n30_ : Aside0 (gb200 ≠ gb228) := ⟨h30_⟩
               have n31_ : Aside0 (gb228 ≠ gb200) := ⟨h31_⟩
               have n32_ : Aside0 (Below w.heap.size w w126) := ⟨h32_⟩
               clear HO179
               clear HO182
               clear HO185
               clear HO190
               clear HO194
               clear HO198
               clear HO204
               clear HO208
               clear BK173
               clear BK174
               clear BK187
               clear BK191
               clear BK195
               clear BK200
               clear HB
               clear h0_ h1_ h2_ h3_ h4_ h5_ h6_ h7_ h8_ h9_ h10_ h11_ h12_ h13_ h14_ h15_ h16_ h17_ h18_ h19_ h20_ h21_ h22_ h23_ h24_ h25_ h26_ h27_ h28_ h29_ h30_ h31_ h32_
               have HO179 := n0_
               have HO182 := n1_
               have HO185 := n2_
               have HO190 := n3_
               have HO194 := n4_
               have HO198 := n5_
               have HO204 := n6_
               have HO208 := n7_
               have HO220 := n8_
               have HO223 := n9_
               have HO226 := n10_
               have BK173 := n11_
               have BK174 := n12_
               have BK187 := n13_
               have BK191 := n14_
               have BK195 := n15_
               have BK200 := n16_
               have BK228 := n17_
               have GW228 := n18_
               have GE228 := n19_
               have NB173_228 := n20_
               have NB228_173 := n21_
               have NB174_228 := n22_
               have NB228_174 := n23_
               have NB187_228 := n24_
               have NB228_187 := n25_
               have NB191_228 := n26_
               have NB228_191 := n27_
               have NB195_228 := n28_
               have NB228_195 := n29_
               have NB200_228 := n30_
               have NB228_200 := n31_
               have HB := n32_
               clear n0_ n1_ n2_ n3_ n4_ n5_ n6_ n7_ n8_ n9_ n10_ n11_ n12_ n13_ n14_ n15_ n16_ n17_ n18_ n19_ n20_ n21_ n22_ n23_ n24_ n25_ n26_ n27_ n28_ n29_ n30_ n31_ n32_
               have hHeld : w126.cell? ⟨gb173, 0, none⟩ = some (.slice A0_0 l0_0.length c0_0) ∧ w126.cell? ⟨gb174, 0, none⟩ = some (.slice A1_0 l1_0.length c1_0) := hS_
               obtain ⟨Ao127, co127, eo127⟩ := Kd.R_slice HO226.out
               (first | subst eo127 | (injection eo127 with f1_ f2_ f3_; have f4_ := f1_.symm; have f5_ := f3_.symm; clear f1_ f2_ f3_; subst f4_; subst f5_))
               refine norm_ (a' := ?_) ?_ ?_
               rotate_left
               ·simp only [putAll, Act.put, List.setIfInBounds_toArray, List.set_cons_zero, List.set_cons_succ]
                rfl
               refine one_ (i := 9) (N := none) #[true, true, true, true, true, true, true, true, true, true, false] rfl rfl (one_of HT_.out (by kernel_rfl)) (by decide) (fun K hK => ?_)
               have hs128 : w126.cell? ⟨gb228, 0, none⟩ = some (.slice none 0 0) := (blk_cell BK228.out 0).trans rfl
               have hfs128 := blk_frozen BK228.out 0
               have hns128_0 := NB173_228.out
               have hns128_1 := NB174_228.out
               have hns128_2 := NB187_228.out
               have hns128_3 := NB191_228.out
               have hns128_4 := NB195_228.out
               have hns128_5 := NB200_228.out
               have hms128_0 := NB228_173.out
               have hms128_1 := NB228_174.out
               have hms128_2 := NB228_187.out
               have hms128_3 := NB228_191.out
               have hms128_4 := NB228_195.out
               have hms128_5 := NB228_200.out
               refine skip_ (w1 := ?_) (by rfl) rfl ?_ ?_
               rotate_left
               ·go_simp
                rfl
               refine hK.out _ _ ⟨((cell_far (p := ⟨gb228, _, none⟩) NB173_228.out _).trans (hHeld.1)), ((cell_far (p := ⟨gb228, _, none⟩) NB174_228.out _).trans (hHeld.2))⟩ (fun hHeld => ?_)
               clear hK K
               refine pure_ (i := 10) (N := some 16) (v := ?_) (a' := ?_) #[true, true, true, true, true, true, true, true, true, true, true] rfl rfl (any_of HT_.out (by kernel_rfl)) (fun _ _ _ h => h) (Or.inl ⟨by rfl, ?_⟩) ?_ ?_
               rotate_left
               ·intro w'
                go_simp
                with_reducible rfl
               rotate_left
               ·simp only [Act.put, List.setIfInBounds_toArray, List.set_cons_zero, List.set_cons_succ, i64_w, i32_w]
                rfl
               refine done_ (done_of HT_.out (by kernel_rfl)) ?_
               have hnb129 := NB228_173.out
               have hnc129 := NB173_228.out
               have hnb130 := NB228_174.out
               have hnc130 := NB174_228.out
               have hnb131 := NB228_187.out
               have hnc131 := NB187_228.out
               have hnb132 := NB228_191.out
               have hnc132 := NB191_228.out
               have hnb133 := NB228_195.out
               have hnc133 := NB195_228.out
               have hnb134 := NB228_200.out
               have hnc134 := NB200_228.out
               have hcz135_0 : w126.cell? ⟨gb228, 0, none⟩ = some (.slice none 0 0) := (blk_cell BK228.out 0).trans rfl
               have hfz135_0 := blk_frozen BK228.out 0
               have hcz136_0 : w126.cell? ⟨gb187, 0, none⟩ = some (.slice Ao67 t183.length co67) := (blk_cell BK187.out 0).trans rfl
               have hfz136_0 := blk_frozen BK187.out 0
               try go_wp2_with (first | ((with_reducible refine gate_callee (f := 19) rfl ?_); refine goesL_ (some 104) rfl rfl Try.func19 (by kernel_rfl) rfl #[.agg #[.slice Ao127 t224.length co127], .agg #[.slice Ao67 t183.length co67]] rfl (by (try simp only [List.map_toArray, List.map_cons, List.map_nil]); first | done | rfl | (simp only [List.length_drop, List.length_take]; rfl)) ?_; (with_reducible refine (laws_eqFilter.calls k _ _ t224 _ _ t183 true _ ?side1 ?side2 ?side3 ?side4 A46.out).mono ?_); (case side1 => refine (Kd.R_reads' (e := 4) (base := w.heap.size) (ok := fun k_ => (some k_ ≠ (v178 : Value).ownBlock ∧ (some k_ ≠ (v181 : Value).ownBlock ∧ (some k_ ≠ (.slice Ao67 t183.length co67 : Value).ownBlock ∧ (some k_ ≠ (.slice Ao73 t188.length co73 : Value).ownBlock ∧ (some k_ ≠ (.slice Ao82 t192.length co82 : Value).ownBlock ∧ (some k_ ≠ (.slice Ao91 t196.length co91 : Value).ownBlock ∧ (some k_ ≠ (.slice Ao102 t202.length co102 : Value).ownBlock ∧ (some k_ ≠ (.slice Ao106 t206.length co106 : Value).ownBlock ∧ (some k_ ≠ (v219 : Value).ownBlock ∧ some k_ ≠ (v222 : Value).ownBlock)))))))))) (n := t224.length) (c := co127) ?_).2.2; exact (by (with_reducible repeat (first | apply Kd.R_alloc | apply Kd.R_drewN | apply Kd.R_drew)); exact (Kd.R_mono (Kd.R_far (p := ⟨gb228, 0, none⟩) (Kd.R_types HO226.out BK228.out (by decide)) (fun _ hk => hk.2) (.slice Ao127 t224.length co127)) (fun _ h_ => h_.1)))); (case side2 => exact (Kd.R_reads' HO226.out).2.1); (case side3 => refine (Kd.R_reads' (e := 4) (base := w.heap.size) (ok := fun k_ => (some k_ ≠ (v178 : Value).ownBlock ∧ (some k_ ≠ (v181 : Value).ownBlock ∧ (some k_ ≠ (.slice Ao73 t188.length co73 : Value).ownBlock ∧ (some k_ ≠ (.slice Ao82 t192.length co82 : Value).ownBlock ∧ (some k_ ≠ (.slice Ao91 t196.length co91 : Value).ownBlock ∧ (some k_ ≠ (.slice Ao102 t202.length co102 : Value).ownBlock ∧ (some k_ ≠ (.slice Ao106 t206.length co106 : Value).ownBlock ∧ (some k_ ≠ (v219 : Value).ownBlock ∧ (some k_ ≠ (v222 : Value).ownBlock ∧ some k_ ≠ (.slice Ao127 t224.length co127 : Value).ownBlock)))))))))) (n := t183.length) (c := co67) ?_).2.2; exact (by (with_reducible repeat (first | apply Kd.R_alloc | apply Kd.R_drewN | apply Kd.R_drew)); exact (Kd.R_mono (Kd.R_far (p := ⟨gb228, 0, none⟩) (Kd.R_types HO185.out BK228.out (by decide)) (fun _ hk => hk.2) (.slice Ao127 t224.length co127)) (fun _ h_ => h_.1)))); (case side4 => exact (Kd.R_reads' HO185.out).2.1); rintro e w137 ⟨rfl, hb⟩; refine ⟨_, rfl, ?_⟩; replace HO179 := Aside0.mk (Kd.R_below (by (with_reducible repeat (first | apply Kd.R_alloc | apply Kd.R_drewN | apply Kd.R_drew)); exact (Kd.R_mono (Kd.R_far (p := ⟨gb228, 0, none⟩) (Kd.R_types HO179.out BK228.out (by decide)) (fun _ hk => hk.2) (.slice Ao127 t224.length co127)) (fun _ h_ => h_.1))) hb); replace HO182 := Aside0.mk (Kd.R_below (by (with_reducible repeat (first | apply Kd.R_alloc | apply Kd.R_drewN | apply Kd.R_drew)); exact (Kd.R_mono (Kd.R_far (p := ⟨gb228, 0, none⟩) (Kd.R_types HO182.out BK228.out (by decide)) (fun _ hk => hk.2) (.slice Ao127 t224.length co127)) (fun _ h_ => h_.1))) hb); replace HO185 := Aside0.mk (Kd.R_below (by (with_reducible repeat (first | apply Kd.R_alloc | apply Kd.R_drewN | apply Kd.R_drew)); exact (Kd.R_mono (Kd.R_far (p := ⟨gb228, 0, none⟩) (Kd.R_types HO185.out BK228.out (by decide)) (fun _ hk => hk.2) (.slice Ao127 t224.length co127)) (fun _ h_ => h_.1))) hb); replace HO190 := Aside0.mk (Kd.R_below (by (with_reducible repeat (first | apply Kd.R_alloc | apply Kd.R_drewN | apply Kd.R_drew)); exact (Kd.R_mono (Kd.R_far (p := ⟨gb228, 0, none⟩) (Kd.R_types HO190.out BK228.out (by decide)) (fun _ hk => hk.2) (.slice Ao127 t224.length co127)) (fun _ h_ => h_.1))) hb); replace HO194 := Aside0.mk (Kd.R_below (by (with_reducible repeat (first | apply Kd.R_alloc | apply Kd.R_drewN | apply Kd.R_drew)); exact (Kd.R_mono (Kd.R_far (p := ⟨gb228, 0, none⟩) (Kd.R_types HO194.out BK228.out (by decide)) (fun _ hk => hk.2) (.slice Ao127 t224.length co127)) (fun _ h_ => h_.1))) hb); replace HO198 := Aside0.mk (Kd.R_below (by (with_reducible repeat (first | apply Kd.R_alloc | apply Kd.R_drewN | apply Kd.R_drew)); exact (Kd.R_mono (Kd.R_far (p := ⟨gb228, 0, none⟩) (Kd.R_types HO198.out BK228.out (by decide)) (fun _ hk => hk.2) (.slice Ao127 t224.length co127)) (fun _ h_ => h_.1))) hb); replace HO204 := Aside0.mk (Kd.R_below (by (with_reducible repeat (first | apply Kd.R_alloc | apply Kd.R_drewN | apply Kd.R_drew)); exact (Kd.R_mono (Kd.R_far (p := ⟨gb228, 0, none⟩) (Kd.R_types HO204.out BK228.out (by decide)) (fun _ hk => hk.2) (.slice Ao127 t224.length co127)) (fun _ h_ => h_.1))) hb); replace HO208 := Aside0.mk (Kd.R_below (by (with_reducible repeat (first | apply Kd.R_alloc | apply Kd.R_drewN | apply Kd.R_drew)); exact (Kd.R_mono (Kd.R_far (p := ⟨gb228, 0, none⟩) (Kd.R_types HO208.out BK228.out (by decide)) (fun _ hk => hk.2) (.slice Ao127 t224.length co127)) (fun _ h_ => h_.1))) hb); replace HO220 := Aside0.mk (Kd.R_below (by (with_reducible repeat (first | apply Kd.R_alloc | apply Kd.R_drewN | apply Kd.R_drew)); exact (Kd.R_mono (Kd.R_far (p := ⟨gb228, 0, none⟩) (Kd.R_types HO220.out BK228.out (by decide)) (fun _ hk => hk.2) (.slice Ao127 t224.length co127)) (fun _ h_ => h_.1))) hb); replace HO223 := Aside0.mk (Kd.R_below (by (with_reducible repeat (first | apply Kd.R_alloc | apply Kd.R_drewN | apply Kd.R_drew)); exact (Kd.R_mono (Kd.R_far (p := ⟨gb228, 0, none⟩) (Kd.R_types HO223.out BK228.out (by decide)) (fun _ hk => hk.2) (.slice Ao127 t224.length co127)) (fun _ h_ => h_.1))) hb); replace HO226 := Aside0.mk (Kd.R_below (by (with_reducible repeat (first | apply Kd.R_alloc | apply Kd.R_drewN | apply Kd.R_drew)); exact (Kd.R_mono (Kd.R_far (p := ⟨gb228, 0, none⟩) (Kd.R_types HO226.out BK228.out (by decide)) (fun _ hk => hk.2) (.slice Ao127 t224.length co127)) (fun _ h_ => h_.1))) hb); replace BK173 := Aside0.mk (blk_below (g := gb173) (o := .cells #[.slice A0_0 l0_0.length c0_0] 29 (0, 0)) (by (with_reducible repeat (first | refine blk_drewN ?_ _ | refine blk_drew ?_ | refine blk_alloc ?_ _)); refine blk_far ?_ NB173_228.out _; (with_reducible repeat (first | refine blk_drewN ?_ _ | refine blk_drew ?_ | refine blk_alloc ?_ _)); exact BK173.out) hb); replace BK174 := Aside0.mk (blk_below (g := gb174) (o := .cells #[.slice A1_0 l1_0.length c1_0] 29 (0, 0)) (by (with_reducible repeat (first | refine blk_drewN ?_ _ | refine blk_drew ?_ | refine blk_alloc ?_ _)); refine blk_far ?_ NB174_228.out _; (with_reducible repeat (first | refine blk_drewN ?_ _ | refine blk_drew ?_ | refine blk_alloc ?_ _)); exact BK174.out) hb); replace BK187 := Aside0.mk (blk_below (g := gb187) (o := .cells #[.slice Ao67 t183.length co67] 32 (0, 0)) (by (with_reducible repeat (first | refine blk_drewN ?_ _ | refine blk_drew ?_ | refine blk_alloc ?_ _)); refine blk_far ?_ NB187_228.out _; (with_reducible repeat (first | refine blk_drewN ?_ _ | refine blk_drew ?_ | refine blk_alloc ?_ _)); exact BK187.out) hb); replace BK191 := Aside0.mk (blk_below (g := gb191) (o := .cells #[.slice Ao73 t188.length co73] 32 (0, 0)) (by (with_reducible repeat (first | refine blk_drewN ?_ _ | refine blk_drew ?_ | refine blk_alloc ?_ _)); refine blk_far ?_ NB191_228.out _; (with_reducible repeat (first | refine blk_drewN ?_ _ | refine blk_drew ?_ | refine blk_alloc ?_ _)); exact BK191.out) hb); replace BK195 := Aside0.mk (blk_below (g := gb195) (o := .cells #[.slice Ao82 t192.length co82] 32 (0, 0)) (by (with_reducible repeat (first | refine blk_drewN ?_ _ | refine blk_drew ?_ | refine blk_alloc ?_ _)); refine blk_far ?_ NB195_228.out _; (with_reducible repeat (first | refine blk_drewN ?_ _ | refine blk_drew ?_ | refine blk_alloc ?_ _)); exact BK195.out) hb); replace BK200 := Aside0.mk (blk_below (g := gb200) (o := .cells #[.slice Ao91 t196.length co91] 32 (0, 0)) (by (with_reducible repeat (first | refine blk_drewN ?_ _ | refine blk_drew ?_ | refine blk_alloc ?_ _)); refine blk_far ?_ NB200_228.out _; (with_reducible repeat (first | refine blk_drewN ?_ _ | refine blk_drew ?_ | refine blk_alloc ?_ _)); exact BK200.out) hb); replace BK228 := Aside0.mk (blk_below (g := gb228) (o := .cells #[.slice Ao127 t224.length co127] 32 (0, 0)) (by (with_reducible repeat (first | refine blk_drewN ?_ _ | refine blk_drew ?_ | refine blk_alloc ?_ _)); refine blk_put (cs := #[.slice none 0 0]) ?_ 0 _ rfl; (with_reducible repeat (first | refine blk_drewN ?_ _ | refine blk_drew ?_ | refine blk_alloc ?_ _)); exact BK228.out) hb); replace HB := Aside0.mk (below_step (bB HB) hb); (try clear hb); (try clear hb2); (try clear hk); (try clear hi); have hcz138_0 : w137.cell? ⟨gb200, 0, none⟩ = some (.slice Ao91 t196.length co91) := (blk_cell BK200.out 0).trans rfl; have hfz138_0 := blk_frozen BK200.out 0) | ((with_reducible refine gate_callee (f := 23) rfl ?_); refine goesL_ (some 113) rfl rfl Try.func23 (by kernel_rfl) rfl #[.agg #[.slice Ao91 t216.length co91], .int .i64 1] rfl (by (try simp only [List.map_toArray, List.map_cons, List.map_nil]); first | done | (rw [show t216.length = t196.length from (Kd.R_reads' HO198.out).1.symm] <;> rfl) | rfl | (simp only [List.length_drop, List.length_take]; rfl)) ?_; (with_reducible refine (laws_heldFilter.calls k _ _ t216 1 t230 _ ?side1 ?side2 A49.out).mono ?_); (case side1 => repeat (first | exact (Kd.R_reads' HO198.out).2.2 | (with_reducible refine Kd.C_alloc ?_ _) | (with_reducible refine Kd.C_drewN ?_ _) | (with_reducible refine Kd.C_drew ?_))); (case side2 => rw [show t216.length = t196.length from (Kd.R_reads' HO198.out).1.symm]; exact (Kd.R_reads' HO198.out).2.1); rintro e w139 ⟨rfl, hb⟩; refine ⟨_, rfl, ?_⟩; replace HO179 := Aside0.mk (Kd.R_below (aR HO179) hb); replace HO182 := Aside0.mk (Kd.R_below (aR HO182) hb); replace HO185 := Aside0.mk (Kd.R_below (aR HO185) hb); replace HO190 := Aside0.mk (Kd.R_below (aR HO190) hb); replace HO194 := Aside0.mk (Kd.R_below (aR HO194) hb); replace HO198 := Aside0.mk (Kd.R_below (aR HO198) hb); replace HO204 := Aside0.mk (Kd.R_below (aR HO204) hb); replace HO208 := Aside0.mk (Kd.R_below (aR HO208) hb); replace HO220 := Aside0.mk (Kd.R_below (aR HO220) hb); replace HO223 := Aside0.mk (Kd.R_below (aR HO223) hb); replace HO226 := Aside0.mk (Kd.R_below (aR HO226) hb); replace BK173 := Aside0.mk (blk_below (g := gb173) (o := .cells #[.slice A0_0 l0_0.length c0_0] 29 (0, 0)) (kB BK173) hb); replace BK174 := Aside0.mk (blk_below (g := gb174) (o := .cells #[.slice A1_0 l1_0.length c1_0] 29 (0, 0)) (kB BK174) hb); replace BK187 := Aside0.mk (blk_below (g := gb187) (o := .cells #[.slice Ao67 t183.length co67] 32 (0, 0)) (kB BK187) hb); replace BK191 := Aside0.mk (blk_below (g := gb191) (o := .cells #[.slice Ao73 t188.length co73] 32 (0, 0)) (kB BK191) hb); replace BK195 := Aside0.mk (blk_below (g := gb195) (o := .cells #[.slice Ao82 t192.length co82] 32 (0, 0)) (kB BK195) hb); replace BK200 := Aside0.mk (blk_below (g := gb200) (o := .cells #[.slice Ao91 t196.length co91] 32 (0, 0)) (kB BK200) hb); replace BK228 := Aside0.mk (blk_below (g := gb228) (o := .cells #[.slice Ao127 t224.length co127] 32 (0, 0)) (kB BK228) hb); replace HB := Aside0.mk (below_step (bB HB) hb); (try clear hb); (try clear hb2); (try clear hk); (try clear hi)))
               go_ret
               exact ⟨by first | rfl | (simp [errW_none, errW_some] <;> rfl) | (simp [*, errW_none, errW_some] <;> rfl), bB HB⟩
              ·rw [if_neg c51] at H
               exact absurd H (by simp)
           ·replace c47 := Bool.eq_false_iff.mpr c47
            subst c47
            have H1 : (none) = some r := by rw [if_neg (show ¬ (false = true) by decide)] at H; exact H
            clear H
            have H := H1
            clear H1
            exact absurd H (by simp)
          ·rw [if_neg c42] at H
           exact absurd H (by simp)
        ·replace c38 := Bool.eq_false_iff.mpr c38
         subst c38
         have H1 : (none) = some r := by rw [if_neg (show ¬ (false = true) by decide)] at H; exact H
         clear H
         have H := H1
         clear H1
         exact absurd H (by simp)
      ·replace c33 := Bool.eq_false_iff.mpr c33
       subst c33
       have H1 : (none) = some r := by rw [if_neg (show ¬ (false = true) by decide)] at H; exact H
       clear H
       have H := H1
       clear H1
       exact absurd H (by simp)
     ·replace c30 := Bool.eq_false_iff.mpr c30
      subst c30
      have H1 : (none) = some r := by rw [if_neg (show ¬ (false = true) by decide)] at H; exact H
      clear H
      have H := H1
      clear H1
      exact absurd H (by simp)
   ·replace c26 := Bool.eq_false_iff.mpr c26
    subst c26
    have H1 : (none) = some r := by rw [if_neg (show ¬ (false = true) by decide)] at H; exact H
    clear H
    have H := H1
    clear H1
    exact absurd H (by simp)

end Go.Proofs.Ytflmebbcgbejfaa.XFnExactMeetFilters
