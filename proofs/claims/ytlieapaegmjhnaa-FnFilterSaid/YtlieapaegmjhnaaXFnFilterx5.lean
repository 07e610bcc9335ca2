-- Written by xprint.py of this session: out of the translation, by the kit's print with contracts of this session.
import Derived.Test.YtlieapaegmjhnaaXFnFilterx0
import Derived.Test.YtlieapaegmjhnaaXFnFilterx1
import Derived.Test.YtlieapaegmjhnaaXFnFilterx2
import Derived.Test.YtlieapaegmjhnaaXFnFilterx3
import Derived.Test.YtlieapaegmjhnaaXFnFilterx4
import Derived.Test.YtlieapaegmjhnaaXFnFilterx5d
namespace Go.Proofs.Ytlieapaegmjhnaa.XFnFilter
open Go.RowKit Go.Proofs.YtlieapaegmjhnaaW.PrintWords Go.Proofs.YtlieapaegmjhnaaW.PrintLast Go.Proofs.YtlieapaegmjhnaaW.PrintMore
open Go.Proofs.Ytlieapaegmjhnaa.Min0
attribute [local go_sem] max2_int min2_int max_two min_two max_three min_three max_four min_four   -- for this text's walks alone
set_option linter.unusedVariables false
set_option linter.unusedSimpArgs false
set_option maxHeartbeats 8000000 in
set_option maxRecDepth 100000 in
theorem laws_FnFilter.calls (k : Nat) (A0 : Option Addr) (c0 : Nat) (l0 : List Int) (A1 : Option Addr) (c1 : Nat) (l1 : List Int) (r : Bool) (w : World) (hr0 : Kd.C (Kd.int .u8) w A0 l0.length l0) (hc0 : l0.length ≤ c0) (hr1 : Kd.C (Kd.int .u8) w A1 l1.length l1) (hc1 : l1.length ≤ c1) (h : laws_FnFilter.f k l0 l1 = some r) :
  Calls Try.prog 7 #[.slice A0 l0.length c0, .slice A1 l1.length c1] w fun e w' => e = .returned (.bool r) ∧ Below w.heap.size w w' := by
 have hu34 := Try.underlying34
 have HR0 := Aside0.mk hr0
 have HC0 := Aside0.mk hc0
 clear hr0 hc0
 have HR1 := Aside0.mk hr1
 have HC1 := Aside0.mk hc1
 clear hr1 hc1
 have HB := Aside0.mk (Below.refl w.heap.size w)
 have H : (if (wrap64 ((l0.length : Int) + (l1.length : Int))) > 1048576 then (some true) else ((spec_DrawFilterOf.f k l0).bind fun t319 => ((impl_FilterOf.f k t319).bind fun bt322 => ((spec_FilterOf.f k t319).bind fun bt327 => (if (bt322.2 != bt327.2) = true then (none) else ((laws_sameBools.f k bt322.1 bt327.1).bind fun t332 => (if t332 = true then (if bt322.2 = true then ((impl_OnesIn.f k bt322.1).bind fun bt333 => ((impl_GoodFilter.f bt322.1).bind fun t335 => (if t335 = true then (if bt333.2 = true then (if bt333.1 > (wrap64 (3 * (t319.length : Int))) then (none) else (laws_FnFilter.l0 k l1 t319 (t319.length : Int) 0 bt322.1)) else (none)) else (none)))) else ((spec_DrawPutFilter.f k l1).bind fun bt364 => ((impl_PutFilter.f k bt364.1 bt364.2).bind fun bt369 => ((spec_PutFilter.f k bt364.1 bt364.2).bind fun bt374 => ((impl_MayHave.f k bt364.1 bt364.2).bind fun bt379 => ((spec_MayHave.f k bt364.1 bt364.2).bind fun bt381 => (if (bt369.2 != bt374.2) = true then (none) else ((laws_sameBools.f k bt369.1 bt374.1).bind fun t383 => (if t383 = true then (if (bt379.2 != bt381.2) = true then (none) else (if (bt379.1 != bt381.1) = true then (none) else ((impl_GoodFilter.f bt364.1).bind fun t384 => ((spec_GoodFilter.f bt364.1).bind fun t385 => (if (t384 != t385) = true then (none) else (if bt369.2 = true then ((impl_MayHave.f k bt369.1 bt364.2).bind fun bt386 => (if bt386.2 = true then (if bt386.1 = true then ((laws_sameBools.f k bt369.1 bt364.1).bind fun t388 => (some (bt379.1 == t388))) else (none)) else (none))) else (some true))))))) else (none)))))))))) else (none)))))))) = some r := h
 clear h
 by_cases c3 : (wrap64 ((l0.length : Int) + (l1.length : Int))) > 1048576
 ·rw [if_pos c3] at H
  have c3b0 : decide (1048576 < (wrap64 ((l0.length : Int) + (l1.length : Int)))) = true := decide_eq_true c3
  clear c3
  obtain rfl := Option.some.inj H
  go_enter Try.func7, Try.ntmps7
  go_wp2
  go_ret
  exact ⟨by first | rfl | (simp [errW_none, errW_some] <;> rfl) | (simp [*, errW_none, errW_some] <;> rfl), bB HB⟩
 ·rw [if_neg c3] at H
  have c3b0 : decide (1048576 < (wrap64 ((l0.length : Int) + (l1.length : Int)))) = false := decide_eq_false c3
  clear c3
  replace H := Option.bind_eq_some_iff.mp H
  obtain ⟨t319, A40, H⟩ := H
  replace H : ((impl_FilterOf.f k t319).bind fun bt322 => ((spec_FilterOf.f k t319).bind fun bt327 => (if (bt322.2 != bt327.2) = true then (none) else ((laws_sameBools.f k bt322.1 bt327.1).bind fun t332 => (if t332 = true then (if bt322.2 = true then ((impl_OnesIn.f k bt322.1).bind fun bt333 => ((impl_GoodFilter.f bt322.1).bind fun t335 => (if t335 = true then (if bt333.2 = true then (if bt333.1 > (wrap64 (3 * (t319.length : Int))) then (none) else (laws_FnFilter.l0 k l1 t319 (t319.length : Int) 0 bt322.1)) else (none)) else (none)))) else ((spec_DrawPutFilter.f k l1).bind fun bt364 => ((impl_PutFilter.f k bt364.1 bt364.2).bind fun bt369 => ((spec_PutFilter.f k bt364.1 bt364.2).bind fun bt374 => ((impl_MayHave.f k bt364.1 bt364.2).bind fun bt379 => ((spec_MayHave.f k bt364.1 bt364.2).bind fun bt381 => (if (bt369.2 != bt374.2) = true then (none) else ((laws_sameBools.f k bt369.1 bt374.1).bind fun t383 => (if t383 = true then (if (bt379.2 != bt381.2) = true then (none) else (if (bt379.1 != bt381.1) = true then (none) else ((impl_GoodFilter.f bt364.1).bind fun t384 => ((spec_GoodFilter.f bt364.1).bind fun t385 => (if (t384 != t385) = true then (none) else (if bt369.2 = true then ((impl_MayHave.f k bt369.1 bt364.2).bind fun bt386 => (if bt386.2 = true then (if bt386.1 = true then ((laws_sameBools.f k bt369.1 bt364.1).bind fun t388 => (some (bt379.1 == t388))) else (none)) else (none))) else (some true))))))) else (none)))))))))) else (none)))))) = some r := H
  have A4 := Aside0.mk A40
  clear A40
  replace H := Option.bind_eq_some_iff.mp H
  obtain ⟨⟨t322, t325⟩, A50, H⟩ := H
  replace H : ((spec_FilterOf.f k t319).bind fun bt327 => (if (t325 != bt327.2) = true then (none) else ((laws_sameBools.f k t322 bt327.1).bind fun t332 => (if t332 = true then (if t325 = true then ((impl_OnesIn.f k t322).bind fun bt333 => ((impl_GoodFilter.f t322).bind fun t335 => (if t335 = true then (if bt333.2 = true then (if bt333.1 > (wrap64 (3 * (t319.length : Int))) then (none) else (laws_FnFilter.l0 k l1 t319 (t319.length : Int) 0 t322)) else (none)) else (none)))) else ((spec_DrawPutFilter.f k l1).bind fun bt364 => ((impl_PutFilter.f k bt364.1 bt364.2).bind fun bt369 => ((spec_PutFilter.f k bt364.1 bt364.2).bind fun bt374 => ((impl_MayHave.f k bt364.1 bt364.2).bind fun bt379 => ((spec_MayHave.f k bt364.1 bt364.2).bind fun bt381 => (if (bt369.2 != bt374.2) = true then (none) else ((laws_sameBools.f k bt369.1 bt374.1).bind fun t383 => (if t383 = true then (if (bt379.2 != bt381.2) = true then (none) else (if (bt379.1 != bt381.1) = true then (none) else ((impl_GoodFilter.f bt364.1).bind fun t384 => ((spec_GoodFilter.f bt364.1).bind fun t385 => (if (t384 != t385) = true then (none) else (if bt369.2 = true then ((impl_MayHave.f k bt369.1 bt364.2).bind fun bt386 => (if bt386.2 = true then (if bt386.1 = true then ((laws_sameBools.f k bt369.1 bt364.1).bind fun t388 => (some (bt379.1 == t388))) else (none)) else (none))) else (some true))))))) else (none)))))))))) else (none))))) = some r := H
  have A5 := Aside0.mk A50
  clear A50
  replace H := Option.bind_eq_some_iff.mp H
  obtain ⟨⟨t327, t330⟩, A60, H⟩ := H
  replace H : (if (t325 != t330) = true then (none) else ((laws_sameBools.f k t322 t327).bind fun t332 => (if t332 = true then (if t325 = true then ((impl_OnesIn.f k t322).bind fun bt333 => ((impl_GoodFilter.f t322).bind fun t335 => (if t335 = true then (if bt333.2 = true then (if bt333.1 > (wrap64 (3 * (t319.length : Int))) then (none) else (laws_FnFilter.l0 k l1 t319 (t319.length : Int) 0 t322)) else (none)) else (none)))) else ((spec_DrawPutFilter.f k l1).bind fun bt364 => ((impl_PutFilter.f k bt364.1 bt364.2).bind fun bt369 => ((spec_PutFilter.f k bt364.1 bt364.2).bind fun bt374 => ((impl_MayHave.f k bt364.1 bt364.2).bind fun bt379 => ((spec_MayHave.f k bt364.1 bt364.2).bind fun bt381 => (if (bt369.2 != bt374.2) = true then (none) else ((laws_sameBools.f k bt369.1 bt374.1).bind fun t383 => (if t383 = true then (if (bt379.2 != bt381.2) = true then (none) else (if (bt379.1 != bt381.1) = true then (none) else ((impl_GoodFilter.f bt364.1).bind fun t384 => ((spec_GoodFilter.f bt364.1).bind fun t385 => (if (t384 != t385) = true then (none) else (if bt369.2 = true then ((impl_MayHave.f k bt369.1 bt364.2).bind fun bt386 => (if bt386.2 = true then (if bt386.1 = true then ((laws_sameBools.f k bt369.1 bt364.1).bind fun t388 => (some (bt379.1 == t388))) else (none)) else (none))) else (some true))))))) else (none)))))))))) else (none)))) = some r := H
  have A6 := Aside0.mk A60
  clear A60
  by_cases c7 : (t325 != t330) = true
  ·rw [if_pos c7] at H
   exact absurd H (by simp)
  ·rw [if_neg c7] at H
   have c7b0 : (t325 != t330) = false := by simpa using c7
   (try (have c7b1 : decide (t325 = t330) = true := by simpa using c7))
   (try (have c7b2 : (t325 == t330) = true := by simpa using c7))
   clear c7
   replace H := Option.bind_eq_some_iff.mp H
   obtain ⟨t332, A80, H⟩ := H
   replace H : (if t332 = true then (if t325 = true then ((impl_OnesIn.f k t322).bind fun bt333 => ((impl_GoodFilter.f t322).bind fun t335 => (if t335 = true then (if bt333.2 = true then (if bt333.1 > (wrap64 (3 * (t319.length : Int))) then (none) else (laws_FnFilter.l0 k l1 t319 (t319.length : Int) 0 t322)) else (none)) else (none)))) else ((spec_DrawPutFilter.f k l1).bind fun bt364 => ((impl_PutFilter.f k bt364.1 bt364.2).bind fun bt369 => ((spec_PutFilter.f k bt364.1 bt364.2).bind fun bt374 => ((impl_MayHave.f k bt364.1 bt364.2).bind fun bt379 => ((spec_MayHave.f k bt364.1 bt364.2).bind fun bt381 => (if (bt369.2 != bt374.2) = true then (none) else ((laws_sameBools.f k bt369.1 bt374.1).bind fun t383 => (if t383 = true then (if (bt379.2 != bt381.2) = true then (none) else (if (bt379.1 != bt381.1) = true then (none) else ((impl_GoodFilter.f bt364.1).bind fun t384 => ((spec_GoodFilter.f bt364.1).bind fun t385 => (if (t384 != t385) = true then (none) else (if bt369.2 = true then ((impl_MayHave.f k bt369.1 bt364.2).bind fun bt386 => (if bt386.2 = true then (if bt386.1 = true then ((laws_sameBools.f k bt369.1 bt364.1).bind fun t388 => (some (bt379.1 == t388))) else (none)) else (none))) else (some true))))))) else (none)))))))))) else (none)) = some r := H
   have A8 := Aside0.mk A80
   clear A80
   by_cases c9 : t332 = true
   ·subst c9
    have H1 : (if t325 = true then ((impl_OnesIn.f k t322).bind fun bt333 => ((impl_GoodFilter.f t322).bind fun t335 => (if t335 = true then (if bt333.2 = true then (if bt333.1 > (wrap64 (3 * (t319.length : Int))) then (none) else (laws_FnFilter.l0 k l1 t319 (t319.length : Int) 0 t322)) else (none)) else (none)))) else ((spec_DrawPutFilter.f k l1).bind fun bt364 => ((impl_PutFilter.f k bt364.1 bt364.2).bind fun bt369 => ((spec_PutFilter.f k bt364.1 bt364.2).bind fun bt374 => ((impl_MayHave.f k bt364.1 bt364.2).bind fun bt379 => ((spec_MayHave.f k bt364.1 bt364.2).bind fun bt381 => (if (bt369.2 != bt374.2) = true then (none) else ((laws_sameBools.f k bt369.1 bt374.1).bind fun t383 => (if t383 = true then (if (bt379.2 != bt381.2) = true then (none) else (if (bt379.1 != bt381.1) = true then (none) else ((impl_GoodFilter.f bt364.1).bind fun t384 => ((spec_GoodFilter.f bt364.1).bind fun t385 => (if (t384 != t385) = true then (none) else (if bt369.2 = true then ((impl_MayHave.f k bt369.1 bt364.2).bind fun bt386 => (if bt386.2 = true then (if bt386.1 = true then ((laws_sameBools.f k bt369.1 bt364.1).bind fun t388 => (some (bt379.1 == t388))) else (none)) else (none))) else (some true))))))) else (none)))))))))) = some r := by rw [if_pos rfl] at H; exact H
    clear H
    have H := H1
    clear H1
    by_cases c10 : t325 = true
    ·subst c10
     have H1 : ((impl_OnesIn.f k t322).bind fun bt333 => ((impl_GoodFilter.f t322).bind fun t335 => (if t335 = true then (if bt333.2 = true then (if bt333.1 > (wrap64 (3 * (t319.length : Int))) then (none) else (laws_FnFilter.l0 k l1 t319 (t319.length : Int) 0 t322)) else (none)) else (none)))) = some r := by rw [if_pos rfl] at H; exact H
     clear H
     have H := H1
     clear H1
     replace H := Option.bind_eq_some_iff.mp H
     obtain ⟨⟨t333, t334⟩, A110, H⟩ := H
     replace H : ((impl_GoodFilter.f t322).bind fun t335 => (if t335 = true then (if t334 = true then (if t333 > (wrap64 (3 * (t319.length : Int))) then (none) else (laws_FnFilter.l0 k l1 t319 (t319.length : Int) 0 t322)) else (none)) else (none))) = some r := H
     have A11 := Aside0.mk A110
     clear A110
     replace H := Option.bind_eq_some_iff.mp H
     obtain ⟨t335, A120, H⟩ := H
     replace H : (if t335 = true then (if t334 = true then (if t333 > (wrap64 (3 * (t319.length : Int))) then (none) else (laws_FnFilter.l0 k l1 t319 (t319.length : Int) 0 t322)) else (none)) else (none)) = some r := H
     have A12 := Aside0.mk A120
     clear A120
     by_cases c13 : t335 = true
     ·subst c13
      have H1 : (if t334 = true then (if t333 > (wrap64 (3 * (t319.length : Int))) then (none) else (laws_FnFilter.l0 k l1 t319 (t319.length : Int) 0 t322)) else (none)) = some r := by rw [if_pos rfl] at H; exact H
      clear H
      have H := H1
      clear H1
      by_cases c14 : t334 = true
      ·subst c14
       have H1 : (if t333 > (wrap64 (3 * (t319.length : Int))) then (none) else (laws_FnFilter.l0 k l1 t319 (t319.length : Int) 0 t322)) = some r := by rw [if_pos rfl] at H; exact H
       clear H
       have H := H1
       clear H1
       by_cases c15 : t333 > (wrap64 (3 * (t319.length : Int)))
       ·rw [if_pos c15] at H
        exact absurd H (by simp)
       ·rw [if_neg c15] at H
        have c15b0 : decide ((wrap64 (3 * (t319.length : Int))) < t333) = false := decide_eq_false c15
        clear c15
        have H' := Aside0.mk H
        clear H
        go_enter Try.func7, Try.ntmps7
        go_wp2_with (first | ((with_reducible refine gate_callee (f := 26) rfl ?_); refine goesL_ (some 35) rfl rfl Try.func26 (by kernel_rfl) rfl #[.slice A0 l0.length c0] rfl (by (try simp only [List.map_toArray, List.map_cons, List.map_nil]); first | done | rfl | (simp only [List.length_drop, List.length_take]; rfl)) ?_; (with_reducible refine (spec_DrawFilterOf.calls k _ _ l0 t319 _ ?side1 ?side2 A4.out).mono ?_); (case side1 => repeat (first | exact HR0.out | (with_reducible refine Kd.C_alloc ?_ _) | (with_reducible refine Kd.C_drewN ?_ _) | (with_reducible refine Kd.C_drew ?_))); (case side2 => exact HC0.out); rintro e w16 ⟨v320, rfl, ho0, hb⟩; refine ⟨_, rfl, ?_⟩; have HO321 := Aside0.mk (Kd.R_lower ho0 (below_size (bB HB))); replace HB := Aside0.mk (below_step (bB HB) hb); (try clear hb); (try clear hb2); (try clear hk); (try clear hi); (try clear ho0); obtain ⟨Ao17, co17, eo17⟩ := Kd.R_slice HO321.out; subst eo17) | ((with_reducible refine gate_callee (f := 25) rfl ?_); refine goesL_ (some 38) rfl rfl Try.func25 (by kernel_rfl) rfl #[.slice Ao17 t319.length co17] rfl (by (try simp only [List.map_toArray, List.map_cons, List.map_nil]); first | done | rfl | (simp only [List.length_drop, List.length_take]; rfl)) ?_; (with_reducible refine (impl_FilterOf.calls k _ _ t319 t322 true _ ?side1 ?side2 A5.out).mono ?_); (case side1 => repeat (first | exact (Kd.R_reads' HO321.out).2.2 | (with_reducible refine Kd.C_alloc ?_ _) | (with_reducible refine Kd.C_drewN ?_ _) | (with_reducible refine Kd.C_drew ?_))); (case side2 => exact (Kd.R_reads' HO321.out).2.1); rintro e w18 ⟨v323, rfl, ho0, hb⟩; refine ⟨_, rfl, ?_⟩; replace HO321 := Aside0.mk (Kd.R_below (aR HO321) hb); have HO324 := Aside0.mk (Kd.R_lower ho0 (below_size (bB HB))); replace HB := Aside0.mk (below_step (bB HB) hb); (try clear hb); (try clear hb2); (try clear hk); (try clear hi); (try clear ho0)) | ((with_reducible refine gate_dst (N := 6) rfl ?_); (try (refine gate_guard (by rfl) ?_; dsimp only)); refine box_event ?hg (N := 6) ?hd (cs := #[.slice none 0 0]) (t := 34) ?hr ?_; (case hd => rfl); (case hg => rfl); (case hr => first | (go_simp; done) | (go_simp; rfl)); intro gb326 hg w19 hbox hb; replace HO321 := Aside0.mk (Kd.R_below (aR HO321) hb); replace HO324 := Aside0.mk (Kd.R_below (aR HO324) hb); have BK326 := Aside0.mk (hbox); have GW326 := Aside0.mk ((by rw [hg]; exact (below_size (bB HB)) : w.heap.size ≤ gb326)); have GE326 := Aside0.mk ((by rw [hg]; exact (below_size (bB HB)) : w.heap.size ≤ gb326)); replace HB := Aside0.mk (below_step (bB HB) hb); clear hb hbox hg; obtain ⟨Ao20, co20, eo20⟩ := Kd.R_slice HO324.out; subst eo20; have hcz21_0 : w19.cell? ⟨gb326, 0, none⟩ = some (.slice none 0 0) := (blk_cell BK326.out 0).trans rfl; have hfz21_0 := blk_frozen BK326.out 0) | ((with_reducible refine gate_callee (f := 23) rfl ?_); refine goesL_ (some 43) rfl rfl Try.func23 (by kernel_rfl) rfl #[.slice Ao17 t319.length co17] rfl (by (try simp only [List.map_toArray, List.map_cons, List.map_nil]); first | done | rfl | (simp only [List.length_drop, List.length_take]; rfl)) ?_; (with_reducible refine (spec_FilterOf.calls k _ _ t319 t327 t330 _ ?side1 ?side2 A6.out).mono ?_); (case side1 => refine (Kd.R_reads' (e := 3) (base := w.heap.size) (ok := fun k_ => True) (n := t319.length) (c := co17) ?_).2.2; exact (by (with_reducible repeat (first | apply Kd.R_alloc | apply Kd.R_drewN | apply Kd.R_drew)); exact (Kd.R_mono (Kd.R_far (p := ⟨gb326, 0, none⟩) (Kd.R_types HO321.out BK326.out (by decide)) (fun _ hk => hk.2) (.slice Ao20 t322.length co20)) (fun _ h_ => h_.1)))); (case side2 => exact (Kd.R_reads' HO321.out).2.1); rintro e w22 ⟨v328, rfl, ho0, hb⟩; refine ⟨_, rfl, ?_⟩; replace HO321 := Aside0.mk (Kd.R_below (by (with_reducible repeat (first | apply Kd.R_alloc | apply Kd.R_drewN | apply Kd.R_drew)); exact (Kd.R_mono (Kd.R_far (p := ⟨gb326, 0, none⟩) (Kd.R_types HO321.out BK326.out (by decide)) (fun _ hk => hk.2) (.slice Ao20 t322.length co20)) (fun _ h_ => h_.1))) hb); have HO329 := Aside0.mk (Kd.R_lower (Kd.R_new' ho0 (Kd.R_lt (by (with_reducible repeat (first | apply Kd.R_alloc | apply Kd.R_drewN | apply Kd.R_drew)); exact (Kd.R_mono (Kd.R_far (p := ⟨gb326, 0, none⟩) (Kd.R_types HO324.out BK326.out (by decide)) (fun _ hk => hk.2) (.slice Ao20 t322.length co20)) (fun _ h_ => h_.1))))) (below_size (bB HB))); replace HO324 := Aside0.mk (Kd.R_elder' (by (with_reducible repeat (first | apply Kd.R_alloc | apply Kd.R_drewN | apply Kd.R_drew)); exact (Kd.R_mono (Kd.R_far (p := ⟨gb326, 0, none⟩) (Kd.R_types HO324.out BK326.out (by decide)) (fun _ hk => hk.2) (.slice Ao20 t322.length co20)) (fun _ h_ => h_.1))) (Kd.R_base ho0) hb); replace BK326 := Aside0.mk (blk_below (g := gb326) (o := .cells #[.slice Ao20 t322.length co20] 34 (0, 0)) (by (with_reducible repeat (first | refine blk_drewN ?_ _ | refine blk_drew ?_ | refine blk_alloc ?_ _)); refine blk_put (cs := #[.slice none 0 0]) ?_ 0 _ rfl; (with_reducible repeat (first | refine blk_drewN ?_ _ | refine blk_drew ?_ | refine blk_alloc ?_ _)); exact BK326.out) hb); replace HB := Aside0.mk (below_step (bB HB) hb); (try clear hb); (try clear hb2); (try clear hk); (try clear hi); (try clear ho0)) | ((with_reducible refine gate_dst (N := 8) rfl ?_); (try (refine gate_guard (by rfl) ?_; dsimp only)); refine box_event ?hg (N := 8) ?hd (cs := #[.slice none 0 0]) (t := 34) ?hr ?_; (case hd => rfl); (case hg => rfl); (case hr => first | (go_simp; done) | (go_simp; rfl)); intro gb331 hg w23 hbox hb; replace HO321 := Aside0.mk (Kd.R_below (aR HO321) hb); replace HO324 := Aside0.mk (Kd.R_below (aR HO324) hb); replace HO329 := Aside0.mk (Kd.R_below (aR HO329) hb); have BK331 := Aside0.mk (hbox); have GW331 := Aside0.mk ((by rw [hg]; exact (below_size (bB HB)) : w.heap.size ≤ gb331)); have GE331 := Aside0.mk ((by rw [hg]; exact (below_size (bB HB)) : w.heap.size ≤ gb331)); replace HB := Aside0.mk (below_step (bB HB) hb); have NB326_331 := Aside0.mk ((by rw [hg]; exact Nat.ne_of_lt (blk_lt (g := gb326) (o := .cells #[.slice Ao20 t322.length co20] 34 (0, 0)) (kB BK326)) : gb326 ≠ gb331)); have NB331_326 := Aside0.mk ((by rw [hg]; exact Nat.ne_of_gt (blk_lt (g := gb326) (o := .cells #[.slice Ao20 t322.length co20] 34 (0, 0)) (kB BK326)) : gb331 ≠ gb326)); replace BK326 := Aside0.mk (blk_below (g := gb326) (o := .cells #[.slice Ao20 t322.length co20] 34 (0, 0)) (kB BK326) hb); clear hb hbox hg; obtain ⟨Ao24, co24, eo24⟩ := Kd.R_slice HO329.out; subst eo24; have hnb25 := NB331_326.out; have hnc25 := NB326_331.out; have hcz26_0 : w23.cell? ⟨gb331, 0, none⟩ = some (.slice none 0 0) := (blk_cell BK331.out 0).trans rfl; have hfz26_0 := blk_frozen BK331.out 0; have hcz27_0 : w23.cell? ⟨gb326, 0, none⟩ = some (.slice Ao20 t322.length co20) := (blk_cell BK326.out 0).trans rfl; have hfz27_0 := blk_frozen BK326.out 0) | (go_at_call 27; (with_reducible refine (laws_sameBools.calls k _ _ t322 _ _ t327 true _ ?side1 ?side2 ?side3 ?side4 A8.out).mono ?_); (case side1 => refine (Kd.R_reads' (e := 4) (base := w.heap.size) (ok := fun k_ => (True ∧ some k_ ≠ (.slice Ao24 t327.length co24 : Value).ownBlock)) (n := t322.length) (c := co20) ?_).2.2; exact (by (with_reducible repeat (first | apply Kd.R_alloc | apply Kd.R_drewN | apply Kd.R_drew)); exact (Kd.R_mono (Kd.R_far (p := ⟨gb331, 0, none⟩) (Kd.R_types HO324.out BK331.out (by decide)) (fun _ hk => hk.2) (.slice Ao24 t327.length co24)) (fun _ h_ => h_.1)))); (case side2 => exact (Kd.R_reads' HO324.out).2.1); (case side3 => refine (Kd.R_reads' (e := 4) (base := w.heap.size) (ok := fun k_ => (True ∧ some k_ ≠ (.slice Ao20 t322.length co20 : Value).ownBlock)) (n := t327.length) (c := co24) ?_).2.2; exact (by (with_reducible repeat (first | apply Kd.R_alloc | apply Kd.R_drewN | apply Kd.R_drew)); exact (Kd.R_mono (Kd.R_far (p := ⟨gb331, 0, none⟩) (Kd.R_types HO329.out BK331.out (by decide)) (fun _ hk => hk.2) (.slice Ao24 t327.length co24)) (fun _ h_ => h_.1)))); (case side4 => exact (Kd.R_reads' HO329.out).2.1); rintro e w' ⟨rfl, ⟨nd, rfl⟩⟩) | ((with_reducible refine gate_callee (f := 28) rfl ?_); refine goesL_ (some 60) rfl rfl Try.func28 (by kernel_rfl) rfl #[.agg #[.slice Ao20 t322.length co20]] rfl (by (try simp only [List.map_toArray, List.map_cons, List.map_nil]); first | done | rfl | (simp only [List.length_drop, List.length_take]; rfl)) ?_; (with_reducible refine (impl_OnesIn.calls k _ _ t322 t333 true _ ?side1 ?side2 A11.out).mono ?_); (case side1 => refine (Kd.R_reads' (e := 4) (base := w.heap.size) (ok := fun k_ => (True ∧ some k_ ≠ (.slice Ao24 t327.length co24 : Value).ownBlock)) (n := t322.length) (c := co20) ?_).2.2; exact (by (with_reducible repeat (first | apply Kd.R_alloc | apply Kd.R_drewN | apply Kd.R_drew)); exact (Kd.R_mono (Kd.R_far (p := ⟨gb331, 0, none⟩) (Kd.R_types HO324.out BK331.out (by decide)) (fun _ hk => hk.2) (.slice Ao24 t327.length co24)) (fun _ h_ => h_.1)))); (case side2 => exact (Kd.R_reads' HO324.out).2.1); rintro e w28 ⟨rfl, hb⟩; refine ⟨_, rfl, ?_⟩; replace HO321 := Aside0.mk (Kd.R_below (by (with_reducible repeat (first | apply Kd.R_alloc | apply Kd.R_drewN | apply Kd.R_drew)); exact (Kd.R_mono (Kd.R_far (p := ⟨gb331, 0, none⟩) (Kd.R_types HO321.out BK331.out (by decide)) (fun _ hk => hk.2) (.slice Ao24 t327.length co24)) (fun _ h_ => h_.1))) hb); replace HO324 := Aside0.mk (Kd.R_below (by (with_reducible repeat (first | apply Kd.R_alloc | apply Kd.R_drewN | apply Kd.R_drew)); exact (Kd.R_mono (Kd.R_far (p := ⟨gb331, 0, none⟩) (Kd.R_types HO324.out BK331.out (by decide)) (fun _ hk => hk.2) (.slice Ao24 t327.length co24)) (fun _ h_ => h_.1))) hb); replace HO329 := Aside0.mk (Kd.R_below (by (with_reducible repeat (first | apply Kd.R_alloc | apply Kd.R_drewN | apply Kd.R_drew)); exact (Kd.R_mono (Kd.R_far (p := ⟨gb331, 0, none⟩) (Kd.R_types HO329.out BK331.out (by decide)) (fun _ hk => hk.2) (.slice Ao24 t327.length co24)) (fun _ h_ => h_.1))) hb); replace BK326 := Aside0.mk (blk_below (g := gb326) (o := .cells #[.slice Ao20 t322.length co20] 34 (0, 0)) (by (with_reducible repeat (first | refine blk_drewN ?_ _ | refine blk_drew ?_ | refine blk_alloc ?_ _)); refine blk_far ?_ NB326_331.out _; (with_reducible repeat (first | refine blk_drewN ?_ _ | refine blk_drew ?_ | refine blk_alloc ?_ _)); exact BK326.out) hb); replace BK331 := Aside0.mk (blk_below (g := gb331) (o := .cells #[.slice Ao24 t327.length co24] 34 (0, 0)) (by (with_reducible repeat (first | refine blk_drewN ?_ _ | refine blk_drew ?_ | refine blk_alloc ?_ _)); refine blk_put (cs := #[.slice none 0 0]) ?_ 0 _ rfl; (with_reducible repeat (first | refine blk_drewN ?_ _ | refine blk_drew ?_ | refine blk_alloc ?_ _)); exact BK331.out) hb); replace HB := Aside0.mk (below_step (bB HB) hb); (try clear hb); (try clear hb2); (try clear hk); (try clear hi); have hcz29_0 : w28.cell? ⟨gb326, 0, none⟩ = some (.slice Ao20 t322.length co20) := (blk_cell BK326.out 0).trans rfl; have hfz29_0 := blk_frozen BK326.out 0) | ((with_reducible refine gate_callee (f := 29) rfl ?_); refine goesL_ (some 64) rfl rfl Try.func29 (by kernel_rfl) rfl #[.agg #[.slice Ao20 t322.length co20]] rfl (by (try simp only [List.map_toArray, List.map_cons, List.map_nil]); first | done | rfl | (simp only [List.length_drop, List.length_take]; rfl)) ?_; (with_reducible refine (impl_GoodFilter.calls _ _ t322 true _ ?side1 ?side2 A12.out).mono ?_); (case side1 => repeat (first | exact (Kd.R_reads' HO324.out).2.2 | (with_reducible refine Kd.C_alloc ?_ _) | (with_reducible refine Kd.C_drewN ?_ _) | (with_reducible refine Kd.C_drew ?_))); (case side2 => exact (Kd.R_reads' HO324.out).2.1); rintro e w30 ⟨rfl, hb⟩; refine ⟨_, rfl, ?_⟩; replace HO321 := Aside0.mk (Kd.R_below (aR HO321) hb); replace HO324 := Aside0.mk (Kd.R_below (aR HO324) hb); replace HO329 := Aside0.mk (Kd.R_below (aR HO329) hb); replace BK326 := Aside0.mk (blk_below (g := gb326) (o := .cells #[.slice Ao20 t322.length co20] 34 (0, 0)) (kB BK326) hb); replace BK331 := Aside0.mk (blk_below (g := gb331) (o := .cells #[.slice Ao24 t327.length co24] 34 (0, 0)) (kB BK331) hb); replace HB := Aside0.mk (below_step (bB HB) hb); (try clear hb); (try clear hb2); (try clear hk); (try clear hi)))
        go_loopg [79] k (fun kq v79 w' => ∃ (x79_1 : Int), v79 = .int .i64 x79_1 ∧ Aside0 (laws_FnFilter.l0 kq l1 t319 (t319.length : Int) x79_1 t322 = some r) ∧ Aside0 (kq ≤ k) ∧ Aside0 (Kd.R (Kd.int .i64) 3 w' w.heap.size (fun _ => True) (.slice Ao17 t319.length co17) t319) ∧ Aside0 (Kd.R Kd.bool 4 w' w.heap.size (fun k_ => some k_ ≠ ((.slice Ao24 t327.length co24) : Value).ownBlock) (.slice Ao20 t322.length co20) t322) ∧ Aside0 (Kd.R Kd.bool 4 w' w.heap.size (fun k_ => some k_ ≠ ((.slice Ao20 t322.length co20) : Value).ownBlock) (.slice Ao24 t327.length co24) t327) ∧ Aside0 (w'.heap[gb326]? = some (.cells #[(.slice Ao20 t322.length co20)] 34 (0, 0))) ∧ Aside0 (w'.heap[gb331]? = some (.cells #[(.slice Ao24 t327.length co24)] 34 (0, 0))) ∧ Aside0 (Below w.heap.size w w'))
        case atStart => exact ⟨(0), (by first | rfl | (simp; done) | (simp [*]; done)), H', ⟨Nat.le_refl _⟩, ⟨by (with_reducible repeat (first | apply Kd.R_alloc | apply Kd.R_drewN | apply Kd.R_drew)); exact HO321.out⟩, ⟨by (with_reducible repeat (first | apply Kd.R_alloc | apply Kd.R_drewN | apply Kd.R_drew)); exact Kd.R_mono HO324.out (fun _ hk => hk.2)⟩, ⟨by (with_reducible repeat (first | apply Kd.R_alloc | apply Kd.R_drewN | apply Kd.R_drew)); exact Kd.R_mono HO329.out (fun _ hk => hk.2)⟩, ⟨by (with_reducible repeat (first | refine blk_drewN ?_ _ | refine blk_drew ?_ | refine blk_alloc ?_ _)); exact BK326.out⟩, ⟨by (with_reducible repeat (first | refine blk_drewN ?_ _ | refine blk_drew ?_ | refine blk_alloc ?_ _)); exact BK331.out⟩, ⟨bB HB⟩⟩
        case round =>
         clear H'
         try clear c1
         try clear c2
         try clear p2
         try clear c3
         try clear c3b0
         try clear p6
         try clear c7
         try clear c7b0
         try clear c7b1
         try clear c7b2
         try clear c9
         try clear c10
         try clear c13
         try clear c14
         try clear c15
         try clear c15b0
         try clear c23
         try clear c25
         try clear c26
         try clear c28
         try clear c29
         try clear hcz21_0
         try clear hcz26_0
         try clear hcz27_0
         try clear hcz29_0
         try clear hfz21_0
         try clear hfz26_0
         try clear hfz27_0
         try clear hfz29_0
         obtain ⟨x79_1, rfl, HA, HK1, HO_77, HO_327000, HO_332000, BK326, BK331, HB⟩ := hrel
         cases gk with
         | zero => exact absurd HA.out (by simp [laws_FnFilter.l0])
         | succ k1 =>
          have H := HA.out
          clear HA
          simp only [laws_FnFilter.l0] at H
          by_cases c31 : x79_1 < (t319.length : Int)
          ·rw [if_pos c31] at H
           have c31b0 : decide (x79_1 < (t319.length : Int)) = true := decide_eq_true c31
           clear c31
           by_cases c32 : 0 ≤ x79_1
           ·rw [if_pos c32] at H
            have c32b0 : decide (0 ≤ x79_1) = true := decide_eq_true c32
            clear c32
            by_cases c33 : x79_1 < (t319.length : Int)
            ·rw [if_pos c33] at H
             have c33b0 : decide (x79_1 < (t319.length : Int)) = true := decide_eq_true c33
             clear c33
             replace H := Option.bind_eq_some_iff.mp H
             obtain ⟨⟨t337, t338⟩, A340, H⟩ := H
             replace H : (if t338 = true then (if t337 = true then (laws_FnFilter.l0 k1 l1 t319 (t319.length : Int) (wrap64 (x79_1 + 1)) t322) else (none)) else (none)) = some r := H
             have A34 := Aside0.mk A340
             clear A340
             by_cases c35 : t338 = true
             ·subst c35
              have H1 : (if t337 = true then (laws_FnFilter.l0 k1 l1 t319 (t319.length : Int) (wrap64 (x79_1 + 1)) t322) else (none)) = some r := by rw [if_pos rfl] at H; exact H
              clear H
              have H := H1
              clear H1
              by_cases c36 : t337 = true
              ·subst c36
               have H1 : (laws_FnFilter.l0 k1 l1 t319 (t319.length : Int) (wrap64 (x79_1 + 1)) t322) = some r := by rw [if_pos rfl] at H; exact H
               clear H
               have H := H1
               clear H1
               have H' := Aside0.mk H
               clear H
               have p336 : 0 ≤ (x79_1 : Int) := of_decide_eq_true (by first | (with_reducible assumption) | assumption)
               have q336 : x79_1 < (t319.length : Int) := of_decide_eq_true (by first | (with_reducible assumption) | assumption)
               obtain ⟨ad336, e336, hx336_0⟩ := Kd.at_int (Kd.R_reads' HO_77.out).2.2 x79_1 p336 q336
               cases e336
               replace p336 := eq_true p336
               replace q336 := eq_true q336
               have hnb37 := NB326_331.out
               have hnc37 := NB331_326.out
               have hcz38_0 : wr.cell? ⟨gb326, 0, none⟩ = some (.slice Ao20 t322.length co20) := (blk_cell BK326.out 0).trans rfl
               have hfz38_0 := blk_frozen BK326.out 0
               go_wp2_with (first | ((with_reducible refine gate_callee (f := 17) rfl ?_); refine goesL_ (some 86) rfl rfl Try.func17 (by kernel_rfl) rfl #[.agg #[.slice Ao20 t322.length co20], .int .i64 (rd t319 x79_1)] rfl (by (try simp only [List.map_toArray, List.map_cons, List.map_nil]); first | done | rfl | (simp only [List.length_drop, List.length_take]; rfl)) ?_; (with_reducible refine (impl_MayHave.calls k1 _ _ t322 (rd t319 x79_1) true true _ ?side1 ?side2 A34.out).mono ?_); (case side1 => repeat (first | exact (Kd.R_reads' HO_327000.out).2.2 | (with_reducible refine Kd.C_alloc ?_ _) | (with_reducible refine Kd.C_drewN ?_ _) | (with_reducible refine Kd.C_drew ?_))); (case side2 => exact (Kd.R_reads' HO_327000.out).2.1); rintro e w39 ⟨rfl, hb⟩; refine ⟨_, rfl, ?_⟩; replace HO_77 := Aside0.mk (Kd.R_below (aR HO_77) hb); replace HO_327000 := Aside0.mk (Kd.R_below (aR HO_327000) hb); replace HO_332000 := Aside0.mk (Kd.R_below (aR HO_332000) hb); replace BK326 := Aside0.mk (blk_below (g := gb326) (o := .cells #[.slice Ao20 t322.length co20] 34 (0, 0)) (kB BK326) hb); replace BK331 := Aside0.mk (blk_below (g := gb331) (o := .cells #[.slice Ao24 t327.length co24] 34 (0, 0)) (kB BK331) hb); replace HB := Aside0.mk (below_step (bB HB) hb); (try clear hb); (try clear hb2); (try clear hk); (try clear hi)))
               go_roundg k1
               case measure => have := HK1.out; omega
               case rel => exact ⟨(wrap64 (x79_1 + 1)), (by first | rfl | (simp; done) | (simp [*]; done)), H', ⟨by have := HK1.out; omega⟩, ⟨by (with_reducible repeat (first | apply Kd.R_alloc | apply Kd.R_drewN | apply Kd.R_drew)); exact HO_77.out⟩, ⟨by (with_reducible repeat (first | apply Kd.R_alloc | apply Kd.R_drewN | apply Kd.R_drew)); exact HO_327000.out⟩, ⟨by (with_reducible repeat (first | apply Kd.R_alloc | apply Kd.R_drewN | apply Kd.R_drew)); exact HO_332000.out⟩, ⟨by (with_reducible repeat (first | refine blk_drewN ?_ _ | refine blk_drew ?_ | refine blk_alloc ?_ _)); exact BK326.out⟩, ⟨by (with_reducible repeat (first | refine blk_drewN ?_ _ | refine blk_drew ?_ | refine blk_alloc ?_ _)); exact BK331.out⟩, ⟨bB HB⟩⟩
              ·replace c36 := Bool.eq_false_iff.mpr c36
               subst c36
               have H1 : (none) = some r := by rw [if_neg (show ¬ (false = true) by decide)] at H; exact H
               clear H
               have H := H1
               clear H1
               exact absurd H (by simp)
             ·replace c35 := Bool.eq_false_iff.mpr c35
              subst c35
              have H1 : (none) = some r := by rw [if_neg (show ¬ (false = true) by decide)] at H; exact H
              clear H
              have H := H1
              clear H1
              exact absurd H (by simp)
            ·rw [if_neg c33] at H
             exact absurd H (by simp)
           ·rw [if_neg c32] at H
            exact absurd H (by simp)
          ·rw [if_neg c31] at H
           have c31b0 : decide (x79_1 < (t319.length : Int)) = false := decide_eq_false c31
           clear c31
           replace H := Option.bind_eq_some_iff.mp H
           obtain ⟨⟨t339, t342⟩, A400, H⟩ := H
           replace H : ((impl_PutFilter.f k1 t339 t342).bind fun bt344 => ((spec_PutFilter.f k1 t339 t342).bind fun bt349 => ((impl_MayHave.f k1 t339 t342).bind fun bt354 => ((spec_MayHave.f k1 t339 t342).bind fun bt356 => (if (bt344.2 != bt349.2) = true then (none) else ((laws_sameBools.f k1 bt344.1 bt349.1).bind fun t358 => (if t358 = true then (if (bt354.2 != bt356.2) = true then (none) else (if (bt354.1 != bt356.1) = true then (none) else ((impl_GoodFilter.f t339).bind fun t359 => ((spec_GoodFilter.f t339).bind fun t360 => (if (t359 != t360) = true then (none) else (if bt344.2 = true then ((impl_MayHave.f k1 bt344.1 t342).bind fun bt361 => (if bt361.2 = true then (if bt361.1 = true then ((laws_sameBools.f k1 bt344.1 t339).bind fun t363 => (some (bt354.1 == t363))) else (none)) else (none))) else (some true))))))) else (none)))))))) = some r := H
           have A40 := Aside0.mk A400
           clear A400
           replace H := Option.bind_eq_some_iff.mp H
           obtain ⟨⟨t344, t347⟩, A410, H⟩ := H
           replace H : ((spec_PutFilter.f k1 t339 t342).bind fun bt349 => ((impl_MayHave.f k1 t339 t342).bind fun bt354 => ((spec_MayHave.f k1 t339 t342).bind fun bt356 => (if (t347 != bt349.2) = true then (none) else ((laws_sameBools.f k1 t344 bt349.1).bind fun t358 => (if t358 = true then (if (bt354.2 != bt356.2) = true then (none) else (if (bt354.1 != bt356.1) = true then (none) else ((impl_GoodFilter.f t339).bind fun t359 => ((spec_GoodFilter.f t339).bind fun t360 => (if (t359 != t360) = true then (none) else (if t347 = true then ((impl_MayHave.f k1 t344 t342).bind fun bt361 => (if bt361.2 = true then (if bt361.1 = true then ((laws_sameBools.f k1 t344 t339).bind fun t363 => (some (bt354.1 == t363))) else (none)) else (none))) else (some true))))))) else (none))))))) = some r := H
           have A41 := Aside0.mk A410
           clear A410
           replace H := Option.bind_eq_some_iff.mp H
           obtain ⟨⟨t349, t352⟩, A420, H⟩ := H
           replace H : ((impl_MayHave.f k1 t339 t342).bind fun bt354 => ((spec_MayHave.f k1 t339 t342).bind fun bt356 => (if (t347 != t352) = true then (none) else ((laws_sameBools.f k1 t344 t349).bind fun t358 => (if t358 = true then (if (bt354.2 != bt356.2) = true then (none) else (if (bt354.1 != bt356.1) = true then (none) else ((impl_GoodFilter.f t339).bind fun t359 => ((spec_GoodFilter.f t339).bind fun t360 => (if (t359 != t360) = true then (none) else (if t347 = true then ((impl_MayHave.f k1 t344 t342).bind fun bt361 => (if bt361.2 = true then (if bt361.1 = true then ((laws_sameBools.f k1 t344 t339).bind fun t363 => (some (bt354.1 == t363))) else (none)) else (none))) else (some true))))))) else (none)))))) = some r := H
           have A42 := Aside0.mk A420
           clear A420
           replace H := Option.bind_eq_some_iff.mp H
           obtain ⟨⟨t354, t355⟩, A430, H⟩ := H
           replace H : ((spec_MayHave.f k1 t339 t342).bind fun bt356 => (if (t347 != t352) = true then (none) else ((laws_sameBools.f k1 t344 t349).bind fun t358 => (if t358 = true then (if (t355 != bt356.2) = true then (none) else (if (t354 != bt356.1) = true then (none) else ((impl_GoodFilter.f t339).bind fun t359 => ((spec_GoodFilter.f t339).bind fun t360 => (if (t359 != t360) = true then (none) else (if t347 = true then ((impl_MayHave.f k1 t344 t342).bind fun bt361 => (if bt361.2 = true then (if bt361.1 = true then ((laws_sameBools.f k1 t344 t339).bind fun t363 => (some (t354 == t363))) else (none)) else (none))) else (some true))))))) else (none))))) = some r := H
           have A43 := Aside0.mk A430
           clear A430
           replace H := Option.bind_eq_some_iff.mp H
           obtain ⟨⟨t356, t357⟩, A440, H⟩ := H
           replace H : (if (t347 != t352) = true then (none) else ((laws_sameBools.f k1 t344 t349).bind fun t358 => (if t358 = true then (if (t355 != t357) = true then (none) else (if (t354 != t356) = true then (none) else ((impl_GoodFilter.f t339).bind fun t359 => ((spec_GoodFilter.f t339).bind fun t360 => (if (t359 != t360) = true then (none) else (if t347 = true then ((impl_MayHave.f k1 t344 t342).bind fun bt361 => (if bt361.2 = true then (if bt361.1 = true then ((laws_sameBools.f k1 t344 t339).bind fun t363 => (some (t354 == t363))) else (none)) else (none))) else (some true))))))) else (none)))) = some r := H
           have A44 := Aside0.mk A440
           clear A440
           by_cases c45 : (t347 != t352) = true
           ·rw [if_pos c45] at H
            have c45b0 : (t347 != t352) = true := c45
            (try (have c45b1 : decide (t347 = t352) = false := by simpa using c45))
            (try (have c45b2 : (t347 == t352) = false := by simpa using c45))
            (try (have c45b3 : ¬ (t347 = t352) := by simpa using c45))
            clear c45
            exact absurd H (by simp)
           ·rw [if_neg c45] at H
            have c45b0 : (t347 != t352) = false := by simpa using c45
            (try (have c45b1 : decide (t347 = t352) = true := by simpa using c45))
            (try (have c45b2 : (t347 == t352) = true := by simpa using c45))
            clear c45
            replace H := Option.bind_eq_some_iff.mp H
            obtain ⟨t358, A460, H⟩ := H
            replace H : (if t358 = true then (if (t355 != t357) = true then (none) else (if (t354 != t356) = true then (none) else ((impl_GoodFilter.f t339).bind fun t359 => ((spec_GoodFilter.f t339).bind fun t360 => (if (t359 != t360) = true then (none) else (if t347 = true then ((impl_MayHave.f k1 t344 t342).bind fun bt361 => (if bt361.2 = true then (if bt361.1 = true then ((laws_sameBools.f k1 t344 t339).bind fun t363 => (some (t354 == t363))) else (none)) else (none))) else (some true))))))) else (none)) = some r := H
            have A46 := Aside0.mk A460
            clear A460
            by_cases c47 : t358 = true
            ·subst c47
             have H1 : (if (t355 != t357) = true then (none) else (if (t354 != t356) = true then (none) else ((impl_GoodFilter.f t339).bind fun t359 => ((spec_GoodFilter.f t339).bind fun t360 => (if (t359 != t360) = true then (none) else (if t347 = true then ((impl_MayHave.f k1 t344 t342).bind fun bt361 => (if bt361.2 = true then (if bt361.1 = true then ((laws_sameBools.f k1 t344 t339).bind fun t363 => (some (t354 == t363))) else (none)) else (none))) else (some true))))))) = some r := by rw [if_pos rfl] at H; exact H
             clear H
             have H := H1
             clear H1
             by_cases c48 : (t355 != t357) = true
             ·rw [if_pos c48] at H
              have c48b0 : (t355 != t357) = true := c48
              (try (have c48b1 : decide (t355 = t357) = false := by simpa using c48))
              (try (have c48b2 : (t355 == t357) = false := by simpa using c48))
              (try (have c48b3 : ¬ (t355 = t357) := by simpa using c48))
              clear c48
              exact absurd H (by simp)
             ·rw [if_neg c48] at H
              have c48b0 : (t355 != t357) = false := by simpa using c48
              (try (have c48b1 : decide (t355 = t357) = true := by simpa using c48))
              (try (have c48b2 : (t355 == t357) = true := by simpa using c48))
              clear c48
              by_cases c49 : (t354 != t356) = true
              ·rw [if_pos c49] at H
               have c49b0 : (t354 != t356) = true := c49
               (try (have c49b1 : decide (t354 = t356) = false := by simpa using c49))
               (try (have c49b2 : (t354 == t356) = false := by simpa using c49))
               (try (have c49b3 : ¬ (t354 = t356) := by simpa using c49))
               clear c49
               exact absurd H (by simp)
              ·rw [if_neg c49] at H
               have c49b0 : (t354 != t356) = false := by simpa using c49
               (try (have c49b1 : decide (t354 = t356) = true := by simpa using c49))
               (try (have c49b2 : (t354 == t356) = true := by simpa using c49))
               clear c49
               replace H := Option.bind_eq_some_iff.mp H
               obtain ⟨t359, A500, H⟩ := H
               replace H : ((spec_GoodFilter.f t339).bind fun t360 => (if (t359 != t360) = true then (none) else (if t347 = true then ((impl_MayHave.f k1 t344 t342).bind fun bt361 => (if bt361.2 = true then (if bt361.1 = true then ((laws_sameBools.f k1 t344 t339).bind fun t363 => (some (t354 == t363))) else (none)) else (none))) else (some true)))) = some r := H
               have A50 := Aside0.mk A500
               clear A500
               replace H := Option.bind_eq_some_iff.mp H
               obtain ⟨t360, A510, H⟩ := H
               replace H : (if (t359 != t360) = true then (none) else (if t347 = true then ((impl_MayHave.f k1 t344 t342).bind fun bt361 => (if bt361.2 = true then (if bt361.1 = true then ((laws_sameBools.f k1 t344 t339).bind fun t363 => (some (t354 == t363))) else (none)) else (none))) else (some true))) = some r := H
               have A51 := Aside0.mk A510
               clear A510
               by_cases c52 : (t359 != t360) = true
               ·rw [if_pos c52] at H
                exact absurd H (by simp)
               ·rw [if_neg c52] at H
                have c52b0 : (t359 != t360) = false := by simpa using c52
                (try (have c52b1 : decide (t359 = t360) = true := by simpa using c52))
                (try (have c52b2 : (t359 == t360) = true := by simpa using c52))
                clear c52
                by_cases c53 : t347 = true
                ·subst c53
                 have H1 : ((impl_MayHave.f k1 t344 t342).bind fun bt361 => (if bt361.2 = true then (if bt361.1 = true then ((laws_sameBools.f k1 t344 t339).bind fun t363 => (some (t354 == t363))) else (none)) else (none))) = some r := by rw [if_pos rfl] at H; exact H
                 clear H
                 have H := H1
                 clear H1
                 replace H := Option.bind_eq_some_iff.mp H
                 obtain ⟨⟨t361, t362⟩, A540, H⟩ := H
                 replace H : (if t362 = true then (if t361 = true then ((laws_sameBools.f k1 t344 t339).bind fun t363 => (some (t354 == t363))) else (none)) else (none)) = some r := H
                 have A54 := Aside0.mk A540
                 clear A540
                 by_cases c55 : t362 = true
                 ·subst c55
                  have H1 : (if t361 = true then ((laws_sameBools.f k1 t344 t339).bind fun t363 => (some (t354 == t363))) else (none)) = some r := by rw [if_pos rfl] at H; exact H
                  clear H
                  have H := H1
                  clear H1
                  by_cases c56 : t361 = true
                  ·subst c56
                   have H1 : ((laws_sameBools.f k1 t344 t339).bind fun t363 => (some (t354 == t363))) = some r := by rw [if_pos rfl] at H; exact H
                   clear H
                   have H := H1
                   clear H1
                   replace H := Option.bind_eq_some_iff.mp H
                   obtain ⟨t363, A570, H⟩ := H
                   replace H : (some (t354 == t363)) = some r := H
                   have A57 := Aside0.mk A570
                   clear A570
                   obtain rfl := Option.some.inj H
                   try go_wp2_with (first | ((with_reducible refine gate_callee (f := 30) rfl ?_); refine goesL_ (some 98) rfl rfl Try.func30 (by kernel_rfl) rfl #[.slice A1 l1.length c1] rfl (by (try simp only [List.map_toArray, List.map_cons, List.map_nil]); first | done | rfl | (simp only [List.length_drop, List.length_take]; rfl)) ?_; (with_reducible refine (spec_DrawPutFilter.calls k1 _ _ l1 t339 t342 _ ?side1 ?side2 A40.out).mono ?_); (case side1 => repeat (first | exact (Kd.C_below HR1.out HB.out) | (with_reducible refine Kd.C_alloc ?_ _) | (with_reducible refine Kd.C_drewN ?_ _) | (with_reducible refine Kd.C_drew ?_))); (case side2 => exact HC1.out); rintro e w58 ⟨v340, rfl, ho0, hb⟩; refine ⟨_, rfl, ?_⟩; replace HO_77 := Aside0.mk (Kd.R_below (aR HO_77) hb); have HO341 := Aside0.mk (Kd.R_lower (Kd.R_new' (Kd.R_new' ho0 (Kd.R_lt (aR HO_327000))) (Kd.R_lt (aR HO_332000))) (below_size (bB HB))); replace HO_327000 := Aside0.mk (Kd.R_elder' (aR HO_327000) (Kd.R_base ho0) hb); replace HO_332000 := Aside0.mk (Kd.R_elder' (aR HO_332000) (Kd.R_base ho0) hb); replace BK326 := Aside0.mk (blk_below (g := gb326) (o := .cells #[.slice Ao20 t322.length co20] 34 (0, 0)) (kB BK326) hb); replace BK331 := Aside0.mk (blk_below (g := gb331) (o := .cells #[.slice Ao24 t327.length co24] 34 (0, 0)) (kB BK331) hb); replace HB := Aside0.mk (below_step (bB HB) hb); (try clear hb); (try clear hb2); (try clear hk); (try clear hi); (try clear ho0)) | ((with_reducible refine gate_dst (N := 16) rfl ?_); (try (refine gate_guard (by rfl) ?_; dsimp only)); refine box_event ?hg (N := 16) ?hd (cs := #[.slice none 0 0]) (t := 34) ?hr ?_; (case hd => rfl); (case hg => rfl); (case hr => first | (go_simp; done) | (go_simp; rfl)); intro gb343 hg w59 hbox hb; replace HO_77 := Aside0.mk (Kd.R_below (aR HO_77) hb); replace HO_327000 := Aside0.mk (Kd.R_below (aR HO_327000) hb); replace HO_332000 := Aside0.mk (Kd.R_below (aR HO_332000) hb); replace HO341 := Aside0.mk (Kd.R_below (aR HO341) hb); have BK343 := Aside0.mk (hbox); have GW343 := Aside0.mk ((by rw [hg]; exact (below_size (bB HB)) : w.heap.size ≤ gb343)); have GE343 := Aside0.mk ((by rw [hg]; exact (below_size (bB HB)) : w.heap.size ≤ gb343)); replace HB := Aside0.mk (below_step (bB HB) hb); have NB326_343 := Aside0.mk ((by rw [hg]; exact Nat.ne_of_lt (blk_lt (g := gb326) (o := .cells #[.slice Ao20 t322.length co20] 34 (0, 0)) (kB BK326)) : gb326 ≠ gb343)); have NB343_326 := Aside0.mk ((by rw [hg]; exact Nat.ne_of_gt (blk_lt (g := gb326) (o := .cells #[.slice Ao20 t322.length co20] 34 (0, 0)) (kB BK326)) : gb343 ≠ gb326)); replace BK326 := Aside0.mk (blk_below (g := gb326) (o := .cells #[.slice Ao20 t322.length co20] 34 (0, 0)) (kB BK326) hb); have NB331_343 := Aside0.mk ((by rw [hg]; exact Nat.ne_of_lt (blk_lt (g := gb331) (o := .cells #[.slice Ao24 t327.length co24] 34 (0, 0)) (kB BK331)) : gb331 ≠ gb343)); have NB343_331 := Aside0.mk ((by rw [hg]; exact Nat.ne_of_gt (blk_lt (g := gb331) (o := .cells #[.slice Ao24 t327.length co24] 34 (0, 0)) (kB BK331)) : gb343 ≠ gb331)); replace BK331 := Aside0.mk (blk_below (g := gb331) (o := .cells #[.slice Ao24 t327.length co24] 34 (0, 0)) (kB BK331) hb); clear hb hbox hg; obtain ⟨Ao60, co60, eo60⟩ := Kd.R_slice HO341.out; subst eo60; have hnb61 := NB343_326.out; have hnc61 := NB326_343.out; have hnb62 := NB343_331.out; have hnc62 := NB331_343.out; have hcz63_0 : w59.cell? ⟨gb343, 0, none⟩ = some (.slice none 0 0) := (blk_cell BK343.out 0).trans rfl; have hfz63_0 := blk_frozen BK343.out 0) | ((with_reducible refine gate_callee (f := 20) rfl ?_); refine goesL_ (some 104) rfl rfl Try.func20 (by kernel_rfl) rfl #[.agg #[.slice Ao60 t339.length co60], .int .i64 t342] rfl (by (try simp only [List.map_toArray, List.map_cons, List.map_nil]); first | done | rfl | (simp only [List.length_drop, List.length_take]; rfl)) ?_; (with_reducible refine (impl_PutFilter.calls k1 _ _ t339 t342 t344 true _ ?side1 ?side2 A41.out).mono ?_); (case side1 => refine (Kd.R_reads' (e := 4) (base := w.heap.size) (ok := fun k_ => ((True ∧ some k_ ≠ (.slice Ao20 t322.length co20 : Value).ownBlock) ∧ some k_ ≠ (.slice Ao24 t327.length co24 : Value).ownBlock)) (n := t339.length) (c := co60) ?_).2.2; exact (by (with_reducible repeat (first | apply Kd.R_alloc | apply Kd.R_drewN | apply Kd.R_drew)); exact (Kd.R_mono (Kd.R_far (p := ⟨gb343, 0, none⟩) (Kd.R_types HO341.out BK343.out (by decide)) (fun _ hk => hk.2) (.slice Ao60 t339.length co60)) (fun _ h_ => h_.1)))); (case side2 => exact (Kd.R_reads' HO341.out).2.1); rintro e w64 ⟨v345, rfl, ho0, hb⟩; refine ⟨_, rfl, ?_⟩; replace HO_77 := Aside0.mk (Kd.R_below (by (with_reducible repeat (first | apply Kd.R_alloc | apply Kd.R_drewN | apply Kd.R_drew)); exact (Kd.R_mono (Kd.R_far (p := ⟨gb343, 0, none⟩) (Kd.R_types HO_77.out BK343.out (by decide)) (fun _ hk => hk.2) (.slice Ao60 t339.length co60)) (fun _ h_ => h_.1))) hb); have HO346 := Aside0.mk (Kd.R_lower (Kd.R_new' (Kd.R_new' (Kd.R_new' ho0 (Kd.R_lt (by (with_reducible repeat (first | apply Kd.R_alloc | apply Kd.R_drewN | apply Kd.R_drew)); exact (Kd.R_mono (Kd.R_far (p := ⟨gb343, 0, none⟩) (Kd.R_types HO_327000.out BK343.out (by decide)) (fun _ hk => hk.2) (.slice Ao60 t339.length co60)) (fun _ h_ => h_.1))))) (Kd.R_lt (by (with_reducible repeat (first | apply Kd.R_alloc | apply Kd.R_drewN | apply Kd.R_drew)); exact (Kd.R_mono (Kd.R_far (p := ⟨gb343, 0, none⟩) (Kd.R_types HO_332000.out BK343.out (by decide)) (fun _ hk => hk.2) (.slice Ao60 t339.length co60)) (fun _ h_ => h_.1))))) (Kd.R_lt (by (with_reducible repeat (first | apply Kd.R_alloc | apply Kd.R_drewN | apply Kd.R_drew)); exact (Kd.R_mono (Kd.R_far (p := ⟨gb343, 0, none⟩) (Kd.R_types HO341.out BK343.out (by decide)) (fun _ hk => hk.2) (.slice Ao60 t339.length co60)) (fun _ h_ => h_.1))))) (below_size (bB HB))); replace HO_327000 := Aside0.mk (Kd.R_elder' (by (with_reducible repeat (first | apply Kd.R_alloc | apply Kd.R_drewN | apply Kd.R_drew)); exact (Kd.R_mono (Kd.R_far (p := ⟨gb343, 0, none⟩) (Kd.R_types HO_327000.out BK343.out (by decide)) (fun _ hk => hk.2) (.slice Ao60 t339.length co60)) (fun _ h_ => h_.1))) (Kd.R_base ho0) hb); replace HO_332000 := Aside0.mk (Kd.R_elder' (by (with_reducible repeat (first | apply Kd.R_alloc | apply Kd.R_drewN | apply Kd.R_drew)); exact (Kd.R_mono (Kd.R_far (p := ⟨gb343, 0, none⟩) (Kd.R_types HO_332000.out BK343.out (by decide)) (fun _ hk => hk.2) (.slice Ao60 t339.length co60)) (fun _ h_ => h_.1))) (Kd.R_base ho0) hb); replace HO341 := Aside0.mk (Kd.R_elder' (by (with_reducible repeat (first | apply Kd.R_alloc | apply Kd.R_drewN | apply Kd.R_drew)); exact (Kd.R_mono (Kd.R_far (p := ⟨gb343, 0, none⟩) (Kd.R_types HO341.out BK343.out (by decide)) (fun _ hk => hk.2) (.slice Ao60 t339.length co60)) (fun _ h_ => h_.1))) (Kd.R_base ho0) hb); replace BK326 := Aside0.mk (blk_below (g := gb326) (o := .cells #[.slice Ao20 t322.length co20] 34 (0, 0)) (by (with_reducible repeat (first | refine blk_drewN ?_ _ | refine blk_drew ?_ | refine blk_alloc ?_ _)); refine blk_far ?_ NB326_343.out _; (with_reducible repeat (first | refine blk_drewN ?_ _ | refine blk_drew ?_ | refine blk_alloc ?_ _)); exact BK326.out) hb); replace BK331 := Aside0.mk (blk_below (g := gb331) (o := .cells #[.slice Ao24 t327.length co24] 34 (0, 0)) (by (with_reducible repeat (first | refine blk_drewN ?_ _ | refine blk_drew ?_ | refine blk_alloc ?_ _)); refine blk_far ?_ NB331_343.out _; (with_reducible repeat (first | refine blk_drewN ?_ _ | refine blk_drew ?_ | refine blk_alloc ?_ _)); exact BK331.out) hb); replace BK343 := Aside0.mk (blk_below (g := gb343) (o := .cells #[.slice Ao60 t339.length co60] 34 (0, 0)) (by (with_reducible repeat (first | refine blk_drewN ?_ _ | refine blk_drew ?_ | refine blk_alloc ?_ _)); refine blk_put (cs := #[.slice none 0 0]) ?_ 0 _ rfl; (with_reducible repeat (first | refine blk_drewN ?_ _ | refine blk_drew ?_ | refine blk_alloc ?_ _)); exact BK343.out) hb); replace HB := Aside0.mk (below_step (bB HB) hb); (try clear hb); (try clear hb2); (try clear hk); (try clear hi); (try clear ho0)) | ((with_reducible refine gate_dst (N := 18) rfl ?_); (try (refine gate_guard (by rfl) ?_; dsimp only)); refine box_event ?hg (N := 18) ?hd (cs := #[.slice none 0 0]) (t := 34) ?hr ?_; (case hd => rfl); (case hg => rfl); (case hr => first | (go_simp; done) | (go_simp; rfl)); intro gb348 hg w65 hbox hb; replace HO_77 := Aside0.mk (Kd.R_below (aR HO_77) hb); replace HO_327000 := Aside0.mk (Kd.R_below (aR HO_327000) hb); replace HO_332000 := Aside0.mk (Kd.R_below (aR HO_332000) hb); replace HO341 := Aside0.mk (Kd.R_below (aR HO341) hb); replace HO346 := Aside0.mk (Kd.R_below (aR HO346) hb); have BK348 := Aside0.mk (hbox); have GW348 := Aside0.mk ((by rw [hg]; exact (below_size (bB HB)) : w.heap.size ≤ gb348)); have GE348 := Aside0.mk ((by rw [hg]; exact (below_size (bB HB)) : w.heap.size ≤ gb348)); replace HB := Aside0.mk (below_step (bB HB) hb); have NB326_348 := Aside0.mk ((by rw [hg]; exact Nat.ne_of_lt (blk_lt (g := gb326) (o := .cells #[.slice Ao20 t322.length co20] 34 (0, 0)) (kB BK326)) : gb326 ≠ gb348)); have NB348_326 := Aside0.mk ((by rw [hg]; exact Nat.ne_of_gt (blk_lt (g := gb326) (o := .cells #[.slice Ao20 t322.length co20] 34 (0, 0)) (kB BK326)) : gb348 ≠ gb326)); replace BK326 := Aside0.mk (blk_below (g := gb326) (o := .cells #[.slice Ao20 t322.length co20] 34 (0, 0)) (kB BK326) hb); have NB331_348 := Aside0.mk ((by rw [hg]; exact Nat.ne_of_lt (blk_lt (g := gb331) (o := .cells #[.slice Ao24 t327.length co24] 34 (0, 0)) (kB BK331)) : gb331 ≠ gb348)); have NB348_331 := Aside0.mk ((by rw [hg]; exact Nat.ne_of_gt (blk_lt (g := gb331) (o := .cells #[.slice Ao24 t327.length co24] 34 (0, 0)) (kB BK331)) : gb348 ≠ gb331)); replace BK331 := Aside0.mk (blk_below (g := gb331) (o := .cells #[.slice Ao24 t327.length co24] 34 (0, 0)) (kB BK331) hb); have NB343_348 := Aside0.mk ((by rw [hg]; exact Nat.ne_of_lt (blk_lt (g := gb343) (o := .cells #[.slice Ao60 t339.length co60] 34 (0, 0)) (kB BK343)) : gb343 ≠ gb348)); have NB348_343 := Aside0.mk ((by rw [hg]; exact Nat.ne_of_gt (blk_lt (g := gb343) (o := .cells #[.slice Ao60 t339.length co60] 34 (0, 0)) (kB BK343)) : gb348 ≠ gb343)); replace BK343 := Aside0.mk (blk_below (g := gb343) (o := .cells #[.slice Ao60 t339.length co60] 34 (0, 0)) (kB BK343) hb); clear hb hbox hg; obtain ⟨Ao66, co66, eo66⟩ := Kd.R_slice HO346.out; subst eo66; have hnb67 := NB348_326.out; have hnc67 := NB326_348.out; have hnb68 := NB348_331.out; have hnc68 := NB331_348.out; have hnb69 := NB348_343.out; have hnc69 := NB343_348.out; have hcz70_0 : w65.cell? ⟨gb348, 0, none⟩ = some (.slice none 0 0) := (blk_cell BK348.out 0).trans rfl; have hfz70_0 := blk_frozen BK348.out 0; have hcz71_0 : w65.cell? ⟨gb343, 0, none⟩ = some (.slice Ao60 t339.length co60) := (blk_cell BK343.out 0).trans rfl; have hfz71_0 := blk_frozen BK343.out 0) | ((with_reducible refine gate_callee (f := 19) rfl ?_); refine goesL_ (some 110) rfl rfl Try.func19 (by kernel_rfl) rfl #[.agg #[.slice Ao60 t339.length co60], .int .i64 t342] rfl (by (try simp only [List.map_toArray, List.map_cons, List.map_nil]); first | done | rfl | (simp only [List.length_drop, List.length_take]; rfl)) ?_; (with_reducible refine (spec_PutFilter.calls k1 _ _ t339 t342 t349 t352 _ ?side1 ?side2 A42.out).mono ?_); (case side1 => refine (Kd.R_reads' (e := 4) (base := w.heap.size) (ok := fun k_ => (((True ∧ some k_ ≠ (.slice Ao20 t322.length co20 : Value).ownBlock) ∧ some k_ ≠ (.slice Ao24 t327.length co24 : Value).ownBlock) ∧ some k_ ≠ (.slice Ao66 t344.length co66 : Value).ownBlock)) (n := t339.length) (c := co60) ?_).2.2; exact (by (with_reducible repeat (first | apply Kd.R_alloc | apply Kd.R_drewN | apply Kd.R_drew)); exact (Kd.R_mono (Kd.R_far (p := ⟨gb348, 0, none⟩) (Kd.R_types HO341.out BK348.out (by decide)) (fun _ hk => hk.2) (.slice Ao66 t344.length co66)) (fun _ h_ => h_.1)))); (case side2 => exact (Kd.R_reads' HO341.out).2.1); rintro e w72 ⟨v350, rfl, ho0, hb⟩; refine ⟨_, rfl, ?_⟩; replace HO_77 := Aside0.mk (Kd.R_below (by (with_reducible repeat (first | apply Kd.R_alloc | apply Kd.R_drewN | apply Kd.R_drew)); exact (Kd.R_mono (Kd.R_far (p := ⟨gb348, 0, none⟩) (Kd.R_types HO_77.out BK348.out (by decide)) (fun _ hk => hk.2) (.slice Ao66 t344.length co66)) (fun _ h_ => h_.1))) hb); have HO351 := Aside0.mk (Kd.R_lower (Kd.R_new' (Kd.R_new' (Kd.R_new' (Kd.R_new' ho0 (Kd.R_lt (by (with_reducible repeat (first | apply Kd.R_alloc | apply Kd.R_drewN | apply Kd.R_drew)); exact (Kd.R_mono (Kd.R_far (p := ⟨gb348, 0, none⟩) (Kd.R_types HO_327000.out BK348.out (by decide)) (fun _ hk => hk.2) (.slice Ao66 t344.length co66)) (fun _ h_ => h_.1))))) (Kd.R_lt (by (with_reducible repeat (first | apply Kd.R_alloc | apply Kd.R_drewN | apply Kd.R_drew)); exact (Kd.R_mono (Kd.R_far (p := ⟨gb348, 0, none⟩) (Kd.R_types HO_332000.out BK348.out (by decide)) (fun _ hk => hk.2) (.slice Ao66 t344.length co66)) (fun _ h_ => h_.1))))) (Kd.R_lt (by (with_reducible repeat (first | apply Kd.R_alloc | apply Kd.R_drewN | apply Kd.R_drew)); exact (Kd.R_mono (Kd.R_far (p := ⟨gb348, 0, none⟩) (Kd.R_types HO341.out BK348.out (by decide)) (fun _ hk => hk.2) (.slice Ao66 t344.length co66)) (fun _ h_ => h_.1))))) (Kd.R_lt (by (with_reducible repeat (first | apply Kd.R_alloc | apply Kd.R_drewN | apply Kd.R_drew)); exact (Kd.R_mono (Kd.R_far (p := ⟨gb348, 0, none⟩) (Kd.R_types HO346.out BK348.out (by decide)) (fun _ hk => hk.2) (.slice Ao66 t344.length co66)) (fun _ h_ => h_.1))))) (below_size (bB HB))); replace HO_327000 := Aside0.mk (Kd.R_elder' (by (with_reducible repeat (first | apply Kd.R_alloc | apply Kd.R_drewN | apply Kd.R_drew)); exact (Kd.R_mono (Kd.R_far (p := ⟨gb348, 0, none⟩) (Kd.R_types HO_327000.out BK348.out (by decide)) (fun _ hk => hk.2) (.slice Ao66 t344.length co66)) (fun _ h_ => h_.1))) (Kd.R_base ho0) hb); replace HO_332000 := Aside0.mk (Kd.R_elder' (by (with_reducible repeat (first | apply Kd.R_alloc | apply Kd.R_drewN | apply Kd.R_drew)); exact (Kd.R_mono (Kd.R_far (p := ⟨gb348, 0, none⟩) (Kd.R_types HO_332000.out BK348.out (by decide)) (fun _ hk => hk.2) (.slice Ao66 t344.length co66)) (fun _ h_ => h_.1))) (Kd.R_base ho0) hb); replace HO341 := Aside0.mk (Kd.R_elder' (by (with_reducible repeat (first | apply Kd.R_alloc | apply Kd.R_drewN | apply Kd.R_drew)); exact (Kd.R_mono (Kd.R_far (p := ⟨gb348, 0, none⟩) (Kd.R_types HO341.out BK348.out (by decide)) (fun _ hk => hk.2) (.slice Ao66 t344.length co66)) (fun _ h_ => h_.1))) (Kd.R_base ho0) hb); replace HO346 := Aside0.mk (Kd.R_elder' (by (with_reducible repeat (first | apply Kd.R_alloc | apply Kd.R_drewN | apply Kd.R_drew)); exact (Kd.R_mono (Kd.R_far (p := ⟨gb348, 0, none⟩) (Kd.R_types HO346.out BK348.out (by decide)) (fun _ hk => hk.2) (.slice Ao66 t344.length co66)) (fun _ h_ => h_.1))) (Kd.R_base ho0) hb); replace BK326 := Aside0.mk (blk_below (g := gb326) (o := .cells #[.slice Ao20 t322.length co20] 34 (0, 0)) (by (with_reducible repeat (first | refine blk_drewN ?_ _ | refine blk_drew ?_ | refine blk_alloc ?_ _)); refine blk_far ?_ NB326_348.out _; (with_reducible repeat (first | refine blk_drewN ?_ _ | refine blk_drew ?_ | refine blk_alloc ?_ _)); exact BK326.out) hb); replace BK331 := Aside0.mk (blk_below (g := gb331) (o := .cells #[.slice Ao24 t327.length co24] 34 (0, 0)) (by (with_reducible repeat (first | refine blk_drewN ?_ _ | refine blk_drew ?_ | refine blk_alloc ?_ _)); refine blk_far ?_ NB331_348.out _; (with_reducible repeat (first | refine blk_drewN ?_ _ | refine blk_drew ?_ | refine blk_alloc ?_ _)); exact BK331.out) hb); replace BK343 := Aside0.mk (blk_below (g := gb343) (o := .cells #[.slice Ao60 t339.length co60] 34 (0, 0)) (by (with_reducible repeat (first | refine blk_drewN ?_ _ | refine blk_drew ?_ | refine blk_alloc ?_ _)); refine blk_far ?_ NB343_348.out _; (with_reducible repeat (first | refine blk_drewN ?_ _ | refine blk_drew ?_ | refine blk_alloc ?_ _)); exact BK343.out) hb); replace BK348 := Aside0.mk (blk_below (g := gb348) (o := .cells #[.slice Ao66 t344.length co66] 34 (0, 0)) (by (with_reducible repeat (first | refine blk_drewN ?_ _ | refine blk_drew ?_ | refine blk_alloc ?_ _)); refine blk_put (cs := #[.slice none 0 0]) ?_ 0 _ rfl; (with_reducible repeat (first | refine blk_drewN ?_ _ | refine blk_drew ?_ | refine blk_alloc ?_ _)); exact BK348.out) hb); replace HB := Aside0.mk (below_step (bB HB) hb); (try clear hb); (try clear hb2); (try clear hk); (try clear hi); (try clear ho0)) | ((with_reducible refine gate_dst (N := 20) rfl ?_); (try (refine gate_guard (by rfl) ?_; dsimp only)); refine box_event ?hg (N := 20) ?hd (cs := #[.slice none 0 0]) (t := 34) ?hr ?_; (case hd => rfl); (case hg => rfl); (case hr => first | (go_simp; done) | (go_simp; rfl)); intro gb353 hg w73 hbox hb; replace HO_77 := Aside0.mk (Kd.R_below (aR HO_77) hb); replace HO_327000 := Aside0.mk (Kd.R_below (aR HO_327000) hb); replace HO_332000 := Aside0.mk (Kd.R_below (aR HO_332000) hb); replace HO341 := Aside0.mk (Kd.R_below (aR HO341) hb); replace HO346 := Aside0.mk (Kd.R_below (aR HO346) hb); replace HO351 := Aside0.mk (Kd.R_below (aR HO351) hb); have BK353 := Aside0.mk (hbox); have GW353 := Aside0.mk ((by rw [hg]; exact (below_size (bB HB)) : w.heap.size ≤ gb353)); have GE353 := Aside0.mk ((by rw [hg]; exact (below_size (bB HB)) : w.heap.size ≤ gb353)); replace HB := Aside0.mk (below_step (bB HB) hb); have NB326_353 := Aside0.mk ((by rw [hg]; exact Nat.ne_of_lt (blk_lt (g := gb326) (o := .cells #[.slice Ao20 t322.length co20] 34 (0, 0)) (kB BK326)) : gb326 ≠ gb353)); have NB353_326 := Aside0.mk ((by rw [hg]; exact Nat.ne_of_gt (blk_lt (g := gb326) (o := .cells #[.slice Ao20 t322.length co20] 34 (0, 0)) (kB BK326)) : gb353 ≠ gb326)); replace BK326 := Aside0.mk (blk_below (g := gb326) (o := .cells #[.slice Ao20 t322.length co20] 34 (0, 0)) (kB BK326) hb); have NB331_353 := Aside0.mk ((by rw [hg]; exact Nat.ne_of_lt (blk_lt (g := gb331) (o := .cells #[.slice Ao24 t327.length co24] 34 (0, 0)) (kB BK331)) : gb331 ≠ gb353)); have NB353_331 := Aside0.mk ((by rw [hg]; exact Nat.ne_of_gt (blk_lt (g := gb331) (o := .cells #[.slice Ao24 t327.length co24] 34 (0, 0)) (kB BK331)) : gb353 ≠ gb331)); replace BK331 := Aside0.mk (blk_below (g := gb331) (o := .cells #[.slice Ao24 t327.length co24] 34 (0, 0)) (kB BK331) hb); have NB343_353 := Aside0.mk ((by rw [hg]; exact Nat.ne_of_lt (blk_lt (g := gb343) (o := .cells #[.slice Ao60 t339.length co60] 34 (0, 0)) (kB BK343)) : gb343 ≠ gb353)); have NB353_343 := Aside0.mk ((by rw [hg]; exact Nat.ne_of_gt (blk_lt (g := gb343) (o := .cells #[.slice Ao60 t339.length co60] 34 (0, 0)) (kB BK343)) : gb353 ≠ gb343)); replace BK343 := Aside0.mk (blk_below (g := gb343) (o := .cells #[.slice Ao60 t339.length co60] 34 (0, 0)) (kB BK343) hb); have NB348_353 := Aside0.mk ((by rw [hg]; exact Nat.ne_of_lt (blk_lt (g := gb348) (o := .cells #[.slice Ao66 t344.length co66] 34 (0, 0)) (kB BK348)) : gb348 ≠ gb353)); have NB353_348 := Aside0.mk ((by rw [hg]; exact Nat.ne_of_gt (blk_lt (g := gb348) (o := .cells #[.slice Ao66 t344.length co66] 34 (0, 0)) (kB BK348)) : gb353 ≠ gb348)); replace BK348 := Aside0.mk (blk_below (g := gb348) (o := .cells #[.slice Ao66 t344.length co66] 34 (0, 0)) (kB BK348) hb); clear hb hbox hg; obtain ⟨Ao74, co74, eo74⟩ := Kd.R_slice HO351.out; subst eo74; have hnb75 := NB353_326.out; have hnc75 := NB326_353.out; have hnb76 := NB353_331.out; have hnc76 := NB331_353.out; have hnb77 := NB353_343.out; have hnc77 := NB343_353.out; have hnb78 := NB353_348.out; have hnc78 := NB348_353.out; have hcz79_0 : w73.cell? ⟨gb353, 0, none⟩ = some (.slice none 0 0) := (blk_cell BK353.out 0).trans rfl; have hfz79_0 := blk_frozen BK353.out 0; have hcz80_0 : w73.cell? ⟨gb343, 0, none⟩ = some (.slice Ao60 t339.length co60) := (blk_cell BK343.out 0).trans rfl; have hfz80_0 := blk_frozen BK343.out 0) | ((with_reducible refine gate_callee (f := 17) rfl ?_); refine goesL_ (some 116) rfl rfl Try.func17 (by kernel_rfl) rfl #[.agg #[.slice Ao60 t339.length co60], .int .i64 t342] rfl (by (try simp only [List.map_toArray, List.map_cons, List.map_nil]); first | done | rfl | (simp only [List.length_drop, List.length_take]; rfl)) ?_; (with_reducible refine (impl_MayHave.calls k1 _ _ t339 t342 t354 t355 _ ?side1 ?side2 A43.out).mono ?_); (case side1 => refine (Kd.R_reads' (e := 4) (base := w.heap.size) (ok := fun k_ => ((((True ∧ some k_ ≠ (.slice Ao20 t322.length co20 : Value).ownBlock) ∧ some k_ ≠ (.slice Ao24 t327.length co24 : Value).ownBlock) ∧ some k_ ≠ (.slice Ao66 t344.length co66 : Value).ownBlock) ∧ some k_ ≠ (.slice Ao74 t349.length co74 : Value).ownBlock)) (n := t339.length) (c := co60) ?_).2.2; exact (by (with_reducible repeat (first | apply Kd.R_alloc | apply Kd.R_drewN | apply Kd.R_drew)); exact (Kd.R_mono (Kd.R_far (p := ⟨gb353, 0, none⟩) (Kd.R_types HO341.out BK353.out (by decide)) (fun _ hk => hk.2) (.slice Ao74 t349.length co74)) (fun _ h_ => h_.1)))); (case side2 => exact (Kd.R_reads' HO341.out).2.1); rintro e w81 ⟨rfl, hb⟩; refine ⟨_, rfl, ?_⟩; replace HO_77 := Aside0.mk (Kd.R_below (by (with_reducible repeat (first | apply Kd.R_alloc | apply Kd.R_drewN | apply Kd.R_drew)); exact (Kd.R_mono (Kd.R_far (p := ⟨gb353, 0, none⟩) (Kd.R_types HO_77.out BK353.out (by decide)) (fun _ hk => hk.2) (.slice Ao74 t349.length co74)) (fun _ h_ => h_.1))) hb); replace HO_327000 := Aside0.mk (Kd.R_below (by (with_reducible repeat (first | apply Kd.R_alloc | apply Kd.R_drewN | apply Kd.R_drew)); exact (Kd.R_mono (Kd.R_far (p := ⟨gb353, 0, none⟩) (Kd.R_types HO_327000.out BK353.out (by decide)) (fun _ hk => hk.2) (.slice Ao74 t349.length co74)) (fun _ h_ => h_.1))) hb); replace HO_332000 := Aside0.mk (Kd.R_below (by (with_reducible repeat (first | apply Kd.R_alloc | apply Kd.R_drewN | apply Kd.R_drew)); exact (Kd.R_mono (Kd.R_far (p := ⟨gb353, 0, none⟩) (Kd.R_types HO_332000.out BK353.out (by decide)) (fun _ hk => hk.2) (.slice Ao74 t349.length co74)) (fun _ h_ => h_.1))) hb); replace HO341 := Aside0.mk (Kd.R_below (by (with_reducible repeat (first | apply Kd.R_alloc | apply Kd.R_drewN | apply Kd.R_drew)); exact (Kd.R_mono (Kd.R_far (p := ⟨gb353, 0, none⟩) (Kd.R_types HO341.out BK353.out (by decide)) (fun _ hk => hk.2) (.slice Ao74 t349.length co74)) (fun _ h_ => h_.1))) hb); replace HO346 := Aside0.mk (Kd.R_below (by (with_reducible repeat (first | apply Kd.R_alloc | apply Kd.R_drewN | apply Kd.R_drew)); exact (Kd.R_mono (Kd.R_far (p := ⟨gb353, 0, none⟩) (Kd.R_types HO346.out BK353.out (by decide)) (fun _ hk => hk.2) (.slice Ao74 t349.length co74)) (fun _ h_ => h_.1))) hb); replace HO351 := Aside0.mk (Kd.R_below (by (with_reducible repeat (first | apply Kd.R_alloc | apply Kd.R_drewN | apply Kd.R_drew)); exact (Kd.R_mono (Kd.R_far (p := ⟨gb353, 0, none⟩) (Kd.R_types HO351.out BK353.out (by decide)) (fun _ hk => hk.2) (.slice Ao74 t349.length co74)) (fun _ h_ => h_.1))) hb); replace BK326 := Aside0.mk (blk_below (g := gb326) (o := .cells #[.slice Ao20 t322.length co20] 34 (0, 0)) (by (with_reducible repeat (first | refine blk_drewN ?_ _ | refine blk_drew ?_ | refine blk_alloc ?_ _)); refine blk_far ?_ NB326_353.out _; (with_reducible repeat (first | refine blk_drewN ?_ _ | refine blk_drew ?_ | refine blk_alloc ?_ _)); exact BK326.out) hb); replace BK331 := Aside0.mk (blk_below (g := gb331) (o := .cells #[.slice Ao24 t327.length co24] 34 (0, 0)) (by (with_reducible repeat (first | refine blk_drewN ?_ _ | refine blk_drew ?_ | refine blk_alloc ?_ _)); refine blk_far ?_ NB331_353.out _; (with_reducible repeat (first | refine blk_drewN ?_ _ | refine blk_drew ?_ | refine blk_alloc ?_ _)); exact BK331.out) hb); replace BK343 := Aside0.mk (blk_below (g := gb343) (o := .cells #[.slice Ao60 t339.length co60] 34 (0, 0)) (by (with_reducible repeat (first | refine blk_drewN ?_ _ | refine blk_drew ?_ | refine blk_alloc ?_ _)); refine blk_far ?_ NB343_353.out _; (with_reducible repeat (first | refine blk_drewN ?_ _ | refine blk_drew ?_ | refine blk_alloc ?_ _)); exact BK343.out) hb); replace BK348 := Aside0.mk (blk_below (g := gb348) (o := .cells #[.slice Ao66 t344.length co66] 34 (0, 0)) (by (with_reducible repeat (first | refine blk_drewN ?_ _ | refine blk_drew ?_ | refine blk_alloc ?_ _)); refine blk_far ?_ NB348_353.out _; (with_reducible repeat (first | refine blk_drewN ?_ _ | refine blk_drew ?_ | refine blk_alloc ?_ _)); exact BK348.out) hb); replace BK353 := Aside0.mk (blk_below (g := gb353) (o := .cells #[.slice Ao74 t349.length co74] 34 (0, 0)) (by (with_reducible repeat (first | refine blk_drewN ?_ _ | refine blk_drew ?_ | refine blk_alloc ?_ _)); refine blk_put (cs := #[.slice none 0 0]) ?_ 0 _ rfl; (with_reducible repeat (first | refine blk_drewN ?_ _ | refine blk_drew ?_ | refine blk_alloc ?_ _)); exact BK353.out) hb); replace HB := Aside0.mk (below_step (bB HB) hb); (try clear hb); (try clear hb2); (try clear hk); (try clear hi); have hcz82_0 : w81.cell? ⟨gb343, 0, none⟩ = some (.slice Ao60 t339.length co60) := (blk_cell BK343.out 0).trans rfl; have hfz82_0 := blk_frozen BK343.out 0) | ((with_reducible refine gate_callee (f := 15) rfl ?_); refine goesL_ (some 122) rfl rfl Try.func15 (by kernel_rfl) rfl #[.agg #[.slice Ao60 t339.length co60], .int .i64 t342] rfl (by (try simp only [List.map_toArray, List.map_cons, List.map_nil]); first | done | rfl | (simp only [List.length_drop, List.length_take]; rfl)) ?_; (with_reducible refine (spec_MayHave.calls k1 _ _ t339 t342 t356 t357 _ ?side1 ?side2 A44.out).mono ?_); (case side1 => repeat (first | exact (Kd.R_reads' HO341.out).2.2 | (with_reducible refine Kd.C_alloc ?_ _) | (with_reducible refine Kd.C_drewN ?_ _) | (with_reducible refine Kd.C_drew ?_))); (case side2 => exact (Kd.R_reads' HO341.out).2.1); rintro e w83 ⟨rfl, hb⟩; refine ⟨_, rfl, ?_⟩; replace HO_77 := Aside0.mk (Kd.R_below (aR HO_77) hb); replace HO_327000 := Aside0.mk (Kd.R_below (aR HO_327000) hb); replace HO_332000 := Aside0.mk (Kd.R_below (aR HO_332000) hb); replace HO341 := Aside0.mk (Kd.R_below (aR HO341) hb); replace HO346 := Aside0.mk (Kd.R_below (aR HO346) hb); replace HO351 := Aside0.mk (Kd.R_below (aR HO351) hb); replace BK326 := Aside0.mk (blk_below (g := gb326) (o := .cells #[.slice Ao20 t322.length co20] 34 (0, 0)) (kB BK326) hb); replace BK331 := Aside0.mk (blk_below (g := gb331) (o := .cells #[.slice Ao24 t327.length co24] 34 (0, 0)) (kB BK331) hb); replace BK343 := Aside0.mk (blk_below (g := gb343) (o := .cells #[.slice Ao60 t339.length co60] 34 (0, 0)) (kB BK343) hb); replace BK348 := Aside0.mk (blk_below (g := gb348) (o := .cells #[.slice Ao66 t344.length co66] 34 (0, 0)) (kB BK348) hb); replace BK353 := Aside0.mk (blk_below (g := gb353) (o := .cells #[.slice Ao74 t349.length co74] 34 (0, 0)) (kB BK353) hb); replace HB := Aside0.mk (below_step (bB HB) hb); (try clear hb); (try clear hb2); (try clear hk); (try clear hi)))
                   replace HO_77 := Aside0.mk (Kd.R_drew HO_77.out)
                   replace HO_327000 := Aside0.mk (Kd.R_drew HO_327000.out)
                   replace HO_332000 := Aside0.mk (Kd.R_drew HO_332000.out)
                   replace HO341 := Aside0.mk (Kd.R_drew HO341.out)
                   replace HO346 := Aside0.mk (Kd.R_drew HO346.out)
                   replace HO351 := Aside0.mk (Kd.R_drew HO351.out)
                   replace BK326 := Aside0.mk (blk_drew BK326.out)
                   replace BK331 := Aside0.mk (blk_drew BK331.out)
                   replace BK343 := Aside0.mk (blk_drew BK343.out)
                   replace BK348 := Aside0.mk (blk_drew BK348.out)
                   replace BK353 := Aside0.mk (blk_drew BK353.out)
                   replace HB := Aside0.mk (below_drew1 HB.out)
                   refine start_ (n := 28) (S := fun w' => w'.cell? ⟨gb348, 0, none⟩ = some (.slice Ao66 t344.length co66) ∧ w'.cell? ⟨gb353, 0, none⟩ = some (.slice Ao74 t349.length co74) ∧ w'.cell? ⟨gb343, 0, none⟩ = some (.slice Ao60 t339.length co60)) (ds := []) #[false, false, false, false, false, false, false, false, false, false, false, false, false, false, false, false, false, false, false, false, false, false, false, false, false, false, false, false] (by kernel_rfl) rfl rfl ⟨(blk_cell BK348.out 0).trans rfl, (blk_cell BK353.out 0).trans rfl, (blk_cell BK343.out 0).trans rfl⟩ (fun hHeld => ?_); refine with_tabW laws_FnFilter.tab24 laws_FnFilter.bits24 (fun HT_ HW_ => ?_)
                   generalize w83.drew = w84 at HO_77 HO_327000 HO_332000 HO341 HO346 HO351 BK326 BK331 BK343 BK348 BK353 HB hHeld ⊢
                   refine pure_ (i := 0) (N := some 125) (v := ?_) (a' := ?_) #[true, false, false, false, false, false, false, false, false, false, false, false, false, false, false, false, false, false, false, false, false, false, false, false, false, false, false, false] rfl rfl (any_of HT_.out (by kernel_rfl)) (fun _ _ _ h => h) (Or.inl ⟨by rfl, ?_⟩) ?_ ?_
                   rotate_left
                   ·intro w'
                    go_simp
                    with_reducible rfl
                   rotate_left
                   ·simp only [Act.put, List.setIfInBounds_toArray, List.set_cons_zero, List.set_cons_succ, i64_w, i32_w]
                    rfl
                   refine pure_ (i := 1) (N := some 126) (v := ?_) (a' := ?_) #[true, true, false, false, false, false, false, false, false, false, false, false, false, false, false, false, false, false, false, false, false, false, false, false, false, false, false, false] rfl rfl (any_of HT_.out (by kernel_rfl)) (fun _ _ _ h => h) (Or.inl ⟨by rfl, ?_⟩) ?_ ?_
                   rotate_left
                   ·intro w'
                    go_simp
                    with_reducible rfl
                   rotate_left
                   ·simp only [Act.put, List.setIfInBounds_toArray, List.set_cons_zero, List.set_cons_succ, i64_w, i32_w]
                    rfl
                   refine pure_ (i := 2) (N := some 127) (v := ?_) (a' := ?_) #[true, true, true, false, false, false, false, false, false, false, false, false, false, false, false, false, false, false, false, false, false, false, false, false, false, false, false, false] rfl rfl (any_of HT_.out (by kernel_rfl)) (fun _ _ _ h => h) (Or.inl ⟨by rfl, ?_⟩) ?_ ?_
                   rotate_left
                   ·intro w'
                    go_simp
                    with_reducible rfl
                   rotate_left
                   ·simp only [Act.put, List.setIfInBounds_toArray, List.set_cons_zero, List.set_cons_succ, i64_w, i32_w]
                    rfl
                   refine pure_ (i := 3) (N := some 128) (v := ?_) (a' := ?_) #[true, true, true, true, false, false, false, false, false, false, false, false, false, false, false, false, false, false, false, false, false, false, false, false, false, false, false, false] rfl rfl (any_of HT_.out (by kernel_rfl)) (fun _ _ _ h => h) (Or.inl ⟨by rfl, ?_⟩) ?_ ?_
                   rotate_left
                   ·intro w'
                    go_simp
                    with_reducible rfl
                   rotate_left
                   ·simp only [Act.put, List.setIfInBounds_toArray, List.set_cons_zero, List.set_cons_succ, i64_w, i32_w]
                    rfl
                   refine pure_ (i := 4) (N := some 129) (v := ?_) (a' := ?_) #[true, true, true, true, true, false, false, false, false, false, false, false, false, false, false, false, false, false, false, false, false, false, false, false, false, false, false, false] rfl rfl (any_of HT_.out (by kernel_rfl)) (fun _ _ _ h => h) (Or.inl ⟨by rfl, ?_⟩) ?_ ?_
                   rotate_left
                   ·intro w'
                    go_simp
                    with_reducible rfl
                   rotate_left
                   ·simp only [Act.put, List.setIfInBounds_toArray, List.set_cons_zero, List.set_cons_succ, i64_w, i32_w]
                    rfl
                   refine pure_ (i := 6) (N := some 131) (v := ?_) (a' := ?_) #[true, true, true, true, true, false, true, false, false, false, false, false, false, false, false, false, false, false, false, false, false, false, false, false, false, false, false, false] rfl rfl (any_of HT_.out (by kernel_rfl)) (fun _ _ _ h => h) (Or.inl ⟨by rfl, ?_⟩) ?_ ?_
                   rotate_left
                   ·intro w'
                    go_simp
                    with_reducible rfl
                   rotate_left
                   ·simp only [Act.put, List.setIfInBounds_toArray, List.set_cons_zero, List.set_cons_succ, i64_w, i32_w]
                    rfl
                   refine take_ (i := 5) (N := some 130) (v := ?_) (a' := ?_) #[true, true, true, true, true, true, true, false, false, false, false, false, false, false, false, false, false, false, false, false, false, false, false, false, false, false, false, false] rfl rfl (take_ofW HT_.out HW_.out (by kernel_rfl)) (fun _ _ _ h => h) (Or.inl ⟨by rfl, ?_⟩) hHeld ?_ ?_
                   rotate_left
                   ·rintro w' ⟨s0, s1, s2⟩
                    go_simp
                    with_reducible rfl
                   rotate_left
                   ·simp only [Act.put, List.setIfInBounds_toArray, List.set_cons_zero, List.set_cons_succ, i64_w, i32_w]
                    rfl
                   refine take_ (i := 7) (N := some 132) (v := ?_) (a' := ?_) #[true, true, true, true, true, true, true, true, false, false, false, false, false, false, false, false, false, false, false, false, false, false, false, false, false, false, false, false] rfl rfl (take_ofW HT_.out HW_.out (by kernel_rfl)) (fun _ _ _ h => h) (Or.inl ⟨by rfl, ?_⟩) hHeld ?_ ?_
                   rotate_left
                   ·rintro w' ⟨s0, s1, s2⟩
                    go_simp
                    with_reducible rfl
                   rotate_left
                   ·simp only [Act.put, List.setIfInBounds_toArray, List.set_cons_zero, List.set_cons_succ, i64_w, i32_w]
                    rfl
                   refine one_ (i := 8) (N := some 133) #[true, true, true, true, true, true, true, true, true, false, false, false, false, false, false, false, false, false, false, false, false, false, false, false, false, false, false, false] rfl rfl (one_of HT_.out (by kernel_rfl)) (by decide) (fun K hK => ?_)
                   refine goes_ Try.func27 (by kernel_rfl) rfl #[.slice Ao66 t344.length co66, .slice Ao74 t349.length co74] (by rfl) rfl rfl (by (try simp only [List.map_toArray, List.map_cons, List.map_nil]); first | done | rfl | (simp only [List.length_drop, List.length_take]; rfl)) ?_
                   with_reducible refine (laws_sameBools.calls k1 _ _ t344 _ _ t349 true _ ?side1 ?side2 ?side3 ?side4 A46.out).mono ?_
                   (case side1 => repeat (first | exact (Kd.R_reads' HO346.out).2.2 | (with_reducible refine Kd.C_alloc ?_ _) | (with_reducible refine Kd.C_drewN ?_ _) | (with_reducible refine Kd.C_drew ?_)))
                   (case side2 => exact (Kd.R_reads' HO346.out).2.1)
                   (case side3 => repeat (first | exact (Kd.R_reads' HO351.out).2.2 | (with_reducible refine Kd.C_alloc ?_ _) | (with_reducible refine Kd.C_drewN ?_ _) | (with_reducible refine Kd.C_drew ?_)))
                   (case side4 => exact (Kd.R_reads' HO351.out).2.1)
                   rintro e w' ⟨rfl, ⟨nd, rfl⟩⟩
                   refine ⟨_, rfl, ?_⟩
                   refine hK.out _ _ ⟨(blk_cell BK348.out 0).trans rfl, (blk_cell BK353.out 0).trans rfl, (blk_cell BK343.out 0).trans rfl⟩ (fun hHeld => ?_)
                   clear hK K
                   refine norm_ (a' := ?_) ?_ ?_
                   rotate_left
                   ·show Act.put _ (some 133) _ = _
                    simp only [Act.put, List.setIfInBounds_toArray, List.set_cons_zero, List.set_cons_succ, i64_w, i32_w]
                    rfl
                   refine pure_ (i := 9) (N := some 134) (v := ?_) (a' := ?_) #[true, true, true, true, true, true, true, true, true, true, false, false, false, false, false, false, false, false, false, false, false, false, false, false, false, false, false, false] rfl rfl (any_of HT_.out (by kernel_rfl)) (fun _ _ _ h => h) (Or.inl ⟨by rfl, ?_⟩) ?_ ?_
                   rotate_left
                   ·intro w'
                    go_simp
                    with_reducible rfl
                   rotate_left
                   ·simp only [Act.put, List.setIfInBounds_toArray, List.set_cons_zero, List.set_cons_succ, i64_w, i32_w]
                    rfl
                   refine pure_ (i := 10) (N := some 135) (v := ?_) (a' := ?_) #[true, true, true, true, true, true, true, true, true, true, true, false, false, false, false, false, false, false, false, false, false, false, false, false, false, false, false, false] rfl rfl (any_of HT_.out (by kernel_rfl)) (fun _ _ _ h => h) (Or.inl ⟨by rfl, ?_⟩) ?_ ?_
                   rotate_left
                   ·intro w'
                    go_simp
                    with_reducible rfl
                   rotate_left
                   ·simp only [Act.put, List.setIfInBounds_toArray, List.set_cons_zero, List.set_cons_succ, i64_w, i32_w]
                    rfl
                   refine pure_ (i := 11) (N := some 136) (v := ?_) (a' := ?_) #[true, true, true, true, true, true, true, true, true, true, true, true, false, false, false, false, false, false, false, false, false, false, false, false, false, false, false, false] rfl rfl (any_of HT_.out (by kernel_rfl)) (fun _ _ _ h => h) (Or.inl ⟨by rfl, ?_⟩) ?_ ?_
                   rotate_left
                   ·intro w'
                    go_simp
                    with_reducible rfl
                   rotate_left
                   ·simp only [Act.put, List.setIfInBounds_toArray, List.set_cons_zero, List.set_cons_succ, i64_w, i32_w]
                    rfl
                   refine pure_ (i := 12) (N := some 137) (v := ?_) (a' := ?_) #[true, true, true, true, true, true, true, true, true, true, true, true, true, false, false, false, false, false, false, false, false, false, false, false, false, false, false, false] rfl rfl (any_of HT_.out (by kernel_rfl)) (fun _ _ _ h => h) (Or.inl ⟨by rfl, ?_⟩) ?_ ?_
                   rotate_left
                   ·intro w'
                    go_simp
                    with_reducible rfl
                   rotate_left
                   ·simp only [Act.put, List.setIfInBounds_toArray, List.set_cons_zero, List.set_cons_succ, i64_w, i32_w]
                    rfl
                   refine pure_ (i := 13) (N := some 138) (v := ?_) (a' := ?_) #[true, true, true, true, true, true, true, true, true, true, true, true, true, true, false, false, false, false, false, false, false, false, false, false, false, false, false, false] rfl rfl (any_of HT_.out (by kernel_rfl)) (fun _ _ _ h => h) (Or.inl ⟨by rfl, ?_⟩) ?_ ?_
                   rotate_left
                   ·intro w'
                    go_simp
                    with_reducible rfl
                   rotate_left
                   ·simp only [Act.put, List.setIfInBounds_toArray, List.set_cons_zero, List.set_cons_succ, i64_w, i32_w]
                    rfl
                   refine pure_ (i := 14) (N := some 139) (v := ?_) (a' := ?_) #[true, true, true, true, true, true, true, true, true, true, true, true, true, true, true, false, false, false, false, false, false, false, false, false, false, false, false, false] rfl rfl (any_of HT_.out (by kernel_rfl)) (fun _ _ _ h => h) (Or.inl ⟨by rfl, ?_⟩) ?_ ?_
                   rotate_left
                   ·intro w'
                    go_simp
                    with_reducible rfl
                   rotate_left
                   ·simp only [Act.put, List.setIfInBounds_toArray, List.set_cons_zero, List.set_cons_succ, i64_w, i32_w]
                    rfl
                   refine pure_ (i := 15) (N := some 140) (v := ?_) (a' := ?_) #[true, true, true, true, true, true, true, true, true, true, true, true, true, true, true, true, false, false, false, false, false, false, false, false, false, false, false, false] rfl rfl (any_of HT_.out (by kernel_rfl)) (fun _ _ _ h => h) (Or.inl ⟨by rfl, ?_⟩) ?_ ?_
                   rotate_left
                   ·intro w'
                    go_simp
                    with_reducible rfl
                   rotate_left
                   ·simp only [Act.put, List.setIfInBounds_toArray, List.set_cons_zero, List.set_cons_succ, i64_w, i32_w]
                    rfl
                   refine pure_ (i := 16) (N := some 141) (v := ?_) (a' := ?_) #[true, true, true, true, true, true, true, true, true, true, true, true, true, true, true, true, true, false, false, false, false, false, false, false, false, false, false, false] rfl rfl (any_of HT_.out (by kernel_rfl)) (fun _ _ _ h => h) (Or.inl ⟨by rfl, ?_⟩) ?_ ?_
                   rotate_left
                   ·intro w'
                    go_simp
                    with_reducible rfl
                   rotate_left
                   ·simp only [Act.put, List.setIfInBounds_toArray, List.set_cons_zero, List.set_cons_succ, i64_w, i32_w]
                    rfl
                   refine pure_ (i := 17) (N := some 142) (v := ?_) (a' := ?_) #[true, true, true, true, true, true, true, true, true, true, true, true, true, true, true, true, true, true, false, false, false, false, false, false, false, false, false, false] rfl rfl (any_of HT_.out (by kernel_rfl)) (fun _ _ _ h => h) (Or.inl ⟨by rfl, ?_⟩) ?_ ?_
                   rotate_left
                   ·intro w'
                    go_simp
                    with_reducible rfl
                   rotate_left
                   ·simp only [Act.put, List.setIfInBounds_toArray, List.set_cons_zero, List.set_cons_succ, i64_w, i32_w]
                    rfl
                   refine pure_ (i := 18) (N := some 143) (v := ?_) (a' := ?_) #[true, true, true, true, true, true, true, true, true, true, true, true, true, true, true, true, true, true, true, false, false, false, false, false, false, false, false, false] rfl rfl (any_of HT_.out (by kernel_rfl)) (fun _ _ _ h => h) (Or.inl ⟨by rfl, ?_⟩) ?_ ?_
                   rotate_left
                   ·intro w'
                    go_simp
                    with_reducible rfl
                   rotate_left
                   ·simp only [Act.put, List.setIfInBounds_toArray, List.set_cons_zero, List.set_cons_succ, i64_w, i32_w]
                    rfl
                   refine pure_ (i := 19) (N := some 144) (v := ?_) (a' := ?_) #[true, true, true, true, true, true, true, true, true, true, true, true, true, true, true, true, true, true, true, true, false, false, false, false, false, false, false, false] rfl rfl (any_of HT_.out (by kernel_rfl)) (fun _ _ _ h => h) (Or.inl ⟨by rfl, ?_⟩) ?_ ?_
                   rotate_left
                   ·intro w'
                    go_simp
                    with_reducible rfl
                   rotate_left
                   ·simp only [Act.put, List.setIfInBounds_toArray, List.set_cons_zero, List.set_cons_succ, i64_w, i32_w]
                    rfl
                   refine pure_ (i := 20) (N := some 145) (v := ?_) (a' := ?_) #[true, true, true, true, true, true, true, true, true, true, true, true, true, true, true, true, true, true, true, true, true, false, false, false, false, false, false, false] rfl rfl (any_of HT_.out (by kernel_rfl)) (fun _ _ _ h => h) (Or.inl ⟨by rfl, ?_⟩) ?_ ?_
                   rotate_left
                   ·intro w'
                    go_simp
                    with_reducible rfl
                   rotate_left
                   ·simp only [Act.put, List.setIfInBounds_toArray, List.set_cons_zero, List.set_cons_succ, i64_w, i32_w]
                    rfl
                   refine pure_ (i := 21) (N := some 146) (v := ?_) (a' := ?_) #[true, true, true, true, true, true, true, true, true, true, true, true, true, true, true, true, true, true, true, true, true, true, false, false, false, false, false, false] rfl rfl (any_of HT_.out (by kernel_rfl)) (fun _ _ _ h => h) (Or.inl ⟨by rfl, ?_⟩) ?_ ?_
                   rotate_left
                   ·intro w'
                    go_simp
                    with_reducible rfl
                   rotate_left
                   ·simp only [Act.put, List.setIfInBounds_toArray, List.set_cons_zero, List.set_cons_succ, i64_w, i32_w]
                    rfl
                   refine take_ (i := 22) (N := some 147) (v := ?_) (a' := ?_) #[true, true, true, true, true, true, true, true, true, true, true, true, true, true, true, true, true, true, true, true, true, true, true, false, false, false, false, false] rfl rfl (take_ofW HT_.out HW_.out (by kernel_rfl)) (fun _ _ _ h => h) (Or.inl ⟨by rfl, ?_⟩) hHeld ?_ ?_
                   rotate_left
                   ·rintro w' ⟨s0, s1, s2⟩
                    go_simp
                    with_reducible rfl
                   rotate_left
                   ·simp only [Act.put, List.setIfInBounds_toArray, List.set_cons_zero, List.set_cons_succ, i64_w, i32_w]
                    rfl
                   refine take_ (i := 24) (N := some 149) (v := ?_) (a' := ?_) #[true, true, true, true, true, true, true, true, true, true, true, true, true, true, true, true, true, true, true, true, true, true, true, false, true, false, false, false] rfl rfl (take_ofW HT_.out HW_.out (by kernel_rfl)) (fun _ _ _ h => h) (Or.inl ⟨by rfl, ?_⟩) hHeld ?_ ?_
                   rotate_left
                   ·rintro w' ⟨s0, s1, s2⟩
                    go_simp
                    with_reducible rfl
                   rotate_left
                   ·simp only [Act.put, List.setIfInBounds_toArray, List.set_cons_zero, List.set_cons_succ, i64_w, i32_w]
                    rfl
                   refine one_ (i := 23) (N := some 148) #[true, true, true, true, true, true, true, true, true, true, true, true, true, true, true, true, true, true, true, true, true, true, true, true, true, false, false, false] rfl rfl (one_of HT_.out (by kernel_rfl)) (by decide) (fun K hK => ?_)
                   refine goes_ Try.func29 (by kernel_rfl) rfl #[.agg #[.slice Ao60 t339.length co60]] (by rfl) rfl rfl (by (try simp only [List.map_toArray, List.map_cons, List.map_nil]); first | done | rfl | (simp only [List.length_drop, List.length_take]; rfl)) ?_
                   with_reducible refine (impl_GoodFilter.calls _ _ t339 t359 _ ?side1 ?side2 A50.out).mono ?_
                   (case side1 => repeat (first | exact (Kd.R_reads' HO341.out).2.2 | (with_reducible refine Kd.C_alloc ?_ _) | (with_reducible refine Kd.C_drewN ?_ _) | (with_reducible refine Kd.C_drew ?_)))
                   (case side2 => exact (Kd.R_reads' HO341.out).2.1)
                   rintro e w85 ⟨rfl, hb⟩
                   refine ⟨_, rfl, ?_⟩
                   replace HO_77 := Aside0.mk (Kd.R_below (aR HO_77) hb)
                   replace HO_327000 := Aside0.mk (Kd.R_below (aR HO_327000) hb)
                   replace HO_332000 := Aside0.mk (Kd.R_below (aR HO_332000) hb)
                   replace HO341 := Aside0.mk (Kd.R_below (aR HO341) hb)
                   replace HO346 := Aside0.mk (Kd.R_below (aR HO346) hb)
                   replace HO351 := Aside0.mk (Kd.R_below (aR HO351) hb)
                   replace BK326 := Aside0.mk (blk_below (g := gb326) (o := .cells #[.slice Ao20 t322.length co20] 34 (0, 0)) (kB BK326) hb)
                   replace BK331 := Aside0.mk (blk_below (g := gb331) (o := .cells #[.slice Ao24 t327.length co24] 34 (0, 0)) (kB BK331) hb)
                   replace BK343 := Aside0.mk (blk_below (g := gb343) (o := .cells #[.slice Ao60 t339.length co60] 34 (0, 0)) (kB BK343) hb)
                   replace BK348 := Aside0.mk (blk_below (g := gb348) (o := .cells #[.slice Ao66 t344.length co66] 34 (0, 0)) (kB BK348) hb)
                   replace BK353 := Aside0.mk (blk_below (g := gb353) (o := .cells #[.slice Ao74 t349.length co74] 34 (0, 0)) (kB BK353) hb)
                   replace HB := Aside0.mk (below_step (bB HB) hb)
                   (try clear hb);(try clear hb2);(try clear hk);(try clear hi)
                   refine hK.out _ _ ⟨(blk_cell BK348.out 0).trans rfl, (blk_cell BK353.out 0).trans rfl, (blk_cell BK343.out 0).trans rfl⟩ (fun hHeld => ?_)
                   clear hK K
                   refine norm_ (a' := ?_) ?_ ?_
                   rotate_left
                   ·show Act.put _ (some 148) _ = _
                    simp only [Act.put, List.setIfInBounds_toArray, List.set_cons_zero, List.set_cons_succ, i64_w, i32_w]
                    rfl
                   refine one_ (i := 25) (N := some 150) #[true, true, true, true, true, true, true, true, true, true, true, true, true, true, true, true, true, true, true, true, true, true, true, true, true, true, false, false] rfl rfl (one_of HT_.out (by kernel_rfl)) (by decide) (fun K hK => ?_)
                   refine goes_ Try.func31 (by kernel_rfl) rfl #[.agg #[.slice Ao60 t339.length co60]] (by rfl) rfl rfl (by (try simp only [List.map_toArray, List.map_cons, List.map_nil]); first | done | rfl | (simp only [List.length_drop, List.length_take]; rfl)) ?_
                   with_reducible refine (spec_GoodFilter.calls _ _ t339 t360 _ ?side1 ?side2 A51.out).mono ?_
                   (case side1 => repeat (first | exact (Kd.R_reads' HO341.out).2.2 | (with_reducible refine Kd.C_alloc ?_ _) | (with_reducible refine Kd.C_drewN ?_ _) | (with_reducible refine Kd.C_drew ?_)))
                   (case side2 => exact (Kd.R_reads' HO341.out).2.1)
                   rintro e w86 ⟨rfl, hb⟩
                   refine ⟨_, rfl, ?_⟩
                   replace HO_77 := Aside0.mk (Kd.R_below (aR HO_77) hb)
                   replace HO_327000 := Aside0.mk (Kd.R_below (aR HO_327000) hb)
                   replace HO_332000 := Aside0.mk (Kd.R_below (aR HO_332000) hb)
                   replace HO341 := Aside0.mk (Kd.R_below (aR HO341) hb)
                   replace HO346 := Aside0.mk (Kd.R_below (aR HO346) hb)
                   replace HO351 := Aside0.mk (Kd.R_below (aR HO351) hb)
                   replace BK326 := Aside0.mk (blk_below (g := gb326) (o := .cells #[.slice Ao20 t322.length co20] 34 (0, 0)) (kB BK326) hb)
                   replace BK331 := Aside0.mk (blk_below (g := gb331) (o := .cells #[.slice Ao24 t327.length co24] 34 (0, 0)) (kB BK331) hb)
                   replace BK343 := Aside0.mk (blk_below (g := gb343) (o := .cells #[.slice Ao60 t339.length co60] 34 (0, 0)) (kB BK343) hb)
                   replace BK348 := Aside0.mk (blk_below (g := gb348) (o := .cells #[.slice Ao66 t344.length co66] 34 (0, 0)) (kB BK348) hb)
                   replace BK353 := Aside0.mk (blk_below (g := gb353) (o := .cells #[.slice Ao74 t349.length co74] 34 (0, 0)) (kB BK353) hb)
                   replace HB := Aside0.mk (below_step (bB HB) hb)
                   (try clear hb);(try clear hb2);(try clear hk);(try clear hi)
                   refine hK.out _ _ ⟨(blk_cell BK348.out 0).trans rfl, (blk_cell BK353.out 0).trans rfl, (blk_cell BK343.out 0).trans rfl⟩ (fun hHeld => ?_)
                   clear hK K
                   refine norm_ (a' := ?_) ?_ ?_
                   rotate_left
                   ·show Act.put _ (some 150) _ = _
                    simp only [Act.put, List.setIfInBounds_toArray, List.set_cons_zero, List.set_cons_succ, i64_w, i32_w]
                    rfl
                   refine pure_ (i := 26) (N := some 151) (v := ?_) (a' := ?_) #[true, true, true, true, true, true, true, true, true, true, true, true, true, true, true, true, true, true, true, true, true, true, true, true, true, true, true, false] rfl rfl (any_of HT_.out (by kernel_rfl)) (fun _ _ _ h => h) (Or.inl ⟨by rfl, ?_⟩) ?_ ?_
                   rotate_left
                   ·intro w'
                    go_simp
                    with_reducible rfl
                   rotate_left
                   ·simp only [Act.put, List.setIfInBounds_toArray, List.set_cons_zero, List.set_cons_succ, i64_w, i32_w]
                    rfl
                   refine pure_ (i := 27) (N := some 152) (v := ?_) (a' := ?_) #[true, true, true, true, true, true, true, true, true, true, true, true, true, true, true, true, true, true, true, true, true, true, true, true, true, true, true, true] rfl rfl (any_of HT_.out (by kernel_rfl)) (fun _ _ _ h => h) (Or.inl ⟨by rfl, ?_⟩) ?_ ?_
                   rotate_left
                   ·intro w'
                    go_simp
                    with_reducible rfl
                   rotate_left
                   ·simp only [Act.put, List.setIfInBounds_toArray, List.set_cons_zero, List.set_cons_succ, i64_w, i32_w]
                    rfl
                   refine done_ (done_of HT_.out (by kernel_rfl)) ?_
                   have hcz87_0 : w86.cell? ⟨gb348, 0, none⟩ = some (.slice Ao66 t344.length co66) := (blk_cell BK348.out 0).trans rfl
                   have hfz87_0 := blk_frozen BK348.out 0
                   try go_wp2_with (first | ((with_reducible refine gate_callee (f := 17) rfl ?_); refine goesL_ (some 157) rfl rfl Try.func17 (by kernel_rfl) rfl #[.agg #[.slice Ao66 t344.length co66], .int .i64 t342] rfl (by (try simp only [List.map_toArray, List.map_cons, List.map_nil]); first | done | rfl | (simp only [List.length_drop, List.length_take]; rfl)) ?_; (with_reducible refine (impl_MayHave.calls k1 _ _ t344 t342 true true _ ?side1 ?side2 A54.out).mono ?_); (case side1 => repeat (first | exact (Kd.R_reads' HO346.out).2.2 | (with_reducible refine Kd.C_alloc ?_ _) | (with_reducible refine Kd.C_drewN ?_ _) | (with_reducible refine Kd.C_drew ?_))); (case side2 => exact (Kd.R_reads' HO346.out).2.1); rintro e w88 ⟨rfl, hb⟩; refine ⟨_, rfl, ?_⟩; replace HO_77 := Aside0.mk (Kd.R_below (aR HO_77) hb); replace HO_327000 := Aside0.mk (Kd.R_below (aR HO_327000) hb); replace HO_332000 := Aside0.mk (Kd.R_below (aR HO_332000) hb); replace HO341 := Aside0.mk (Kd.R_below (aR HO341) hb); replace HO346 := Aside0.mk (Kd.R_below (aR HO346) hb); replace HO351 := Aside0.mk (Kd.R_below (aR HO351) hb); replace BK326 := Aside0.mk (blk_below (g := gb326) (o := .cells #[.slice Ao20 t322.length co20] 34 (0, 0)) (kB BK326) hb); replace BK331 := Aside0.mk (blk_below (g := gb331) (o := .cells #[.slice Ao24 t327.length co24] 34 (0, 0)) (kB BK331) hb); replace BK343 := Aside0.mk (blk_below (g := gb343) (o := .cells #[.slice Ao60 t339.length co60] 34 (0, 0)) (kB BK343) hb); replace BK348 := Aside0.mk (blk_below (g := gb348) (o := .cells #[.slice Ao66 t344.length co66] 34 (0, 0)) (kB BK348) hb); replace BK353 := Aside0.mk (blk_below (g := gb353) (o := .cells #[.slice Ao74 t349.length co74] 34 (0, 0)) (kB BK353) hb); replace HB := Aside0.mk (below_step (bB HB) hb); (try clear hb); (try clear hb2); (try clear hk); (try clear hi); have hcz89_0 : w88.cell? ⟨gb348, 0, none⟩ = some (.slice Ao66 t344.length co66) := (blk_cell BK348.out 0).trans rfl; have hfz89_0 := blk_frozen BK348.out 0; have hcz90_0 : w88.cell? ⟨gb343, 0, none⟩ = some (.slice Ao60 t339.length co60) := (blk_cell BK343.out 0).trans rfl; have hfz90_0 := blk_frozen BK343.out 0) | (go_at_call 27; (with_reducible refine (laws_sameBools.calls k1 _ _ t344 _ _ t339 t363 _ ?side1 ?side2 ?side3 ?side4 A57.out).mono ?_); (case side1 => repeat (first | exact (Kd.R_reads' HO346.out).2.2 | (with_reducible refine Kd.C_alloc ?_ _) | (with_reducible refine Kd.C_drewN ?_ _) | (with_reducible refine Kd.C_drew ?_))); (case side2 => exact (Kd.R_reads' HO346.out).2.1); (case side3 => repeat (first | exact (Kd.R_reads' HO341.out).2.2 | (with_reducible refine Kd.C_alloc ?_ _) | (with_reducible refine Kd.C_drewN ?_ _) | (with_reducible refine Kd.C_drew ?_))); (case side4 => exact (Kd.R_reads' HO341.out).2.1); rintro e w' ⟨rfl, ⟨nd, rfl⟩⟩))
                   go_ret
                   exact ⟨by first | rfl | (simp [errW_none, errW_some] <;> rfl) | (simp [*, errW_none, errW_some] <;> rfl), bB HB⟩
                  ·replace c56 := Bool.eq_false_iff.mpr c56
                   subst c56
                   have H1 : (none) = some r := by rw [if_neg (show ¬ (false = true) by decide)] at H; exact H
                   clear H
                   have H := H1
                   clear H1
                   exact absurd H (by simp)
                 ·replace c55 := Bool.eq_false_iff.mpr c55
                  subst c55
                  have H1 : (none) = some r := by rw [if_neg (show ¬ (false = true) by decide)] at H; exact H
                  clear H
                  have H := H1
                  clear H1
                  exact absurd H (by simp)
                ·replace c53 := Bool.eq_false_iff.mpr c53
                 subst c53
                 have H1 : (some true) = some r := by rw [if_neg (show ¬ (false = true) by decide)] at H; exact H
                 clear H
                 have H := H1
                 clear H1
                 obtain rfl := Option.some.inj H
                 try go_wp2_with (first | ((with_reducible refine gate_callee (f := 30) rfl ?_); refine goesL_ (some 98) rfl rfl Try.func30 (by kernel_rfl) rfl #[.slice A1 l1.length c1] rfl (by (try simp only [List.map_toArray, List.map_cons, List.map_nil]); first | done | rfl | (simp only [List.length_drop, List.length_take]; rfl)) ?_; (with_reducible refine (spec_DrawPutFilter.calls k1 _ _ l1 t339 t342 _ ?side1 ?side2 A40.out).mono ?_); (case side1 => repeat (first | exact (Kd.C_below HR1.out HB.out) | (with_reducible refine Kd.C_alloc ?_ _) | (with_reducible refine Kd.C_drewN ?_ _) | (with_reducible refine Kd.C_drew ?_))); (case side2 => exact HC1.out); rintro e w91 ⟨v340, rfl, ho0, hb⟩; refine ⟨_, rfl, ?_⟩; replace HO_77 := Aside0.mk (Kd.R_below (aR HO_77) hb); have HO341 := Aside0.mk (Kd.R_lower (Kd.R_new' (Kd.R_new' ho0 (Kd.R_lt (aR HO_327000))) (Kd.R_lt (aR HO_332000))) (below_size (bB HB))); replace HO_327000 := Aside0.mk (Kd.R_elder' (aR HO_327000) (Kd.R_base ho0) hb); replace HO_332000 := Aside0.mk (Kd.R_elder' (aR HO_332000) (Kd.R_base ho0) hb); replace BK326 := Aside0.mk (blk_below (g := gb326) (o := .cells #[.slice Ao20 t322.length co20] 34 (0, 0)) (kB BK326) hb); replace BK331 := Aside0.mk (blk_below (g := gb331) (o := .cells #[.slice Ao24 t327.length co24] 34 (0, 0)) (kB BK331) hb); replace HB := Aside0.mk (below_step (bB HB) hb); (try clear hb); (try clear hb2); (try clear hk); (try clear hi); (try clear ho0)) | ((with_reducible refine gate_dst (N := 16) rfl ?_); (try (refine gate_guard (by rfl) ?_; dsimp only)); refine box_event ?hg (N := 16) ?hd (cs := #[.slice none 0 0]) (t := 34) ?hr ?_; (case hd => rfl); (case hg => rfl); (case hr => first | (go_simp; done) | (go_simp; rfl)); intro gb343 hg w92 hbox hb; replace HO_77 := Aside0.mk (Kd.R_below (aR HO_77) hb); replace HO_327000 := Aside0.mk (Kd.R_below (aR HO_327000) hb); replace HO_332000 := Aside0.mk (Kd.R_below (aR HO_332000) hb); replace HO341 := Aside0.mk (Kd.R_below (aR HO341) hb); have BK343 := Aside0.mk (hbox); have GW343 := Aside0.mk ((by rw [hg]; exact (below_size (bB HB)) : w.heap.size ≤ gb343)); have GE343 := Aside0.mk ((by rw [hg]; exact (below_size (bB HB)) : w.heap.size ≤ gb343)); replace HB := Aside0.mk (below_step (bB HB) hb); have NB326_343 := Aside0.mk ((by rw [hg]; exact Nat.ne_of_lt (blk_lt (g := gb326) (o := .cells #[.slice Ao20 t322.length co20] 34 (0, 0)) (kB BK326)) : gb326 ≠ gb343)); have NB343_326 := Aside0.mk ((by rw [hg]; exact Nat.ne_of_gt (blk_lt (g := gb326) (o := .cells #[.slice Ao20 t322.length co20] 34 (0, 0)) (kB BK326)) : gb343 ≠ gb326)); replace BK326 := Aside0.mk (blk_below (g := gb326) (o := .cells #[.slice Ao20 t322.length co20] 34 (0, 0)) (kB BK326) hb); have NB331_343 := Aside0.mk ((by rw [hg]; exact Nat.ne_of_lt (blk_lt (g := gb331) (o := .cells #[.slice Ao24 t327.length co24] 34 (0, 0)) (kB BK331)) : gb331 ≠ gb343)); have NB343_331 := Aside0.mk ((by rw [hg]; exact Nat.ne_of_gt (blk_lt (g := gb331) (o := .cells #[.slice Ao24 t327.length co24] 34 (0, 0)) (kB BK331)) : gb343 ≠ gb331)); replace BK331 := Aside0.mk (blk_below (g := gb331) (o := .cells #[.slice Ao24 t327.length co24] 34 (0, 0)) (kB BK331) hb); clear hb hbox hg; obtain ⟨Ao93, co93, eo93⟩ := Kd.R_slice HO341.out; subst eo93; have hnb94 := NB343_326.out; have hnc94 := NB326_343.out; have hnb95 := NB343_331.out; have hnc95 := NB331_343.out; have hcz96_0 : w92.cell? ⟨gb343, 0, none⟩ = some (.slice none 0 0) := (blk_cell BK343.out 0).trans rfl; have hfz96_0 := blk_frozen BK343.out 0) | ((with_reducible refine gate_callee (f := 20) rfl ?_); refine goesL_ (some 104) rfl rfl Try.func20 (by kernel_rfl) rfl #[.agg #[.slice Ao93 t339.length co93], .int .i64 t342] rfl (by (try simp only [List.map_toArray, List.map_cons, List.map_nil]); first | done | rfl | (simp only [List.length_drop, List.length_take]; rfl)) ?_; (with_reducible refine (impl_PutFilter.calls k1 _ _ t339 t342 t344 false _ ?side1 ?side2 A41.out).mono ?_); (case side1 => refine (Kd.R_reads' (e := 4) (base := w.heap.size) (ok := fun k_ => ((True ∧ some k_ ≠ (.slice Ao20 t322.length co20 : Value).ownBlock) ∧ some k_ ≠ (.slice Ao24 t327.length co24 : Value).ownBlock)) (n := t339.length) (c := co93) ?_).2.2; exact (by (with_reducible repeat (first | apply Kd.R_alloc | apply Kd.R_drewN | apply Kd.R_drew)); exact (Kd.R_mono (Kd.R_far (p := ⟨gb343, 0, none⟩) (Kd.R_types HO341.out BK343.out (by decide)) (fun _ hk => hk.2) (.slice Ao93 t339.length co93)) (fun _ h_ => h_.1)))); (case side2 => exact (Kd.R_reads' HO341.out).2.1); rintro e w97 ⟨v345, rfl, ho0, hb⟩; refine ⟨_, rfl, ?_⟩; replace HO_77 := Aside0.mk (Kd.R_below (by (with_reducible repeat (first | apply Kd.R_alloc | apply Kd.R_drewN | apply Kd.R_drew)); exact (Kd.R_mono (Kd.R_far (p := ⟨gb343, 0, none⟩) (Kd.R_types HO_77.out BK343.out (by decide)) (fun _ hk => hk.2) (.slice Ao93 t339.length co93)) (fun _ h_ => h_.1))) hb); have HO346 := Aside0.mk (Kd.R_lower (Kd.R_new' (Kd.R_new' (Kd.R_new' ho0 (Kd.R_lt (by (with_reducible repeat (first | apply Kd.R_alloc | apply Kd.R_drewN | apply Kd.R_drew)); exact (Kd.R_mono (Kd.R_far (p := ⟨gb343, 0, none⟩) (Kd.R_types HO_327000.out BK343.out (by decide)) (fun _ hk => hk.2) (.slice Ao93 t339.length co93)) (fun _ h_ => h_.1))))) (Kd.R_lt (by (with_reducible repeat (first | apply Kd.R_alloc | apply Kd.R_drewN | apply Kd.R_drew)); exact (Kd.R_mono (Kd.R_far (p := ⟨gb343, 0, none⟩) (Kd.R_types HO_332000.out BK343.out (by decide)) (fun _ hk => hk.2) (.slice Ao93 t339.length co93)) (fun _ h_ => h_.1))))) (Kd.R_lt (by (with_reducible repeat (first | apply Kd.R_alloc | apply Kd.R_drewN | apply Kd.R_drew)); exact (Kd.R_mono (Kd.R_far (p := ⟨gb343, 0, none⟩) (Kd.R_types HO341.out BK343.out (by decide)) (fun _ hk => hk.2) (.slice Ao93 t339.length co93)) (fun _ h_ => h_.1))))) (below_size (bB HB))); replace HO_327000 := Aside0.mk (Kd.R_elder' (by (with_reducible repeat (first | apply Kd.R_alloc | apply Kd.R_drewN | apply Kd.R_drew)); exact (Kd.R_mono (Kd.R_far (p := ⟨gb343, 0, none⟩) (Kd.R_types HO_327000.out BK343.out (by decide)) (fun _ hk => hk.2) (.slice Ao93 t339.length co93)) (fun _ h_ => h_.1))) (Kd.R_base ho0) hb); replace HO_332000 := Aside0.mk (Kd.R_elder' (by (with_reducible repeat (first | apply Kd.R_alloc | apply Kd.R_drewN | apply Kd.R_drew)); exact (Kd.R_mono (Kd.R_far (p := ⟨gb343, 0, none⟩) (Kd.R_types HO_332000.out BK343.out (by decide)) (fun _ hk => hk.2) (.slice Ao93 t339.length co93)) (fun _ h_ => h_.1))) (Kd.R_base ho0) hb); replace HO341 := Aside0.mk (Kd.R_elder' (by (with_reducible repeat (first | apply Kd.R_alloc | apply Kd.R_drewN | apply Kd.R_drew)); exact (Kd.R_mono (Kd.R_far (p := ⟨gb343, 0, none⟩) (Kd.R_types HO341.out BK343.out (by decide)) (fun _ hk => hk.2) (.slice Ao93 t339.length co93)) (fun _ h_ => h_.1))) (Kd.R_base ho0) hb); replace BK326 := Aside0.mk (blk_below (g := gb326) (o := .cells #[.slice Ao20 t322.length co20] 34 (0, 0)) (by (with_reducible repeat (first | refine blk_drewN ?_ _ | refine blk_drew ?_ | refine blk_alloc ?_ _)); refine blk_far ?_ NB326_343.out _; (with_reducible repeat (first | refine blk_drewN ?_ _ | refine blk_drew ?_ | refine blk_alloc ?_ _)); exact BK326.out) hb); replace BK331 := Aside0.mk (blk_below (g := gb331) (o := .cells #[.slice Ao24 t327.length co24] 34 (0, 0)) (by (with_reducible repeat (first | refine blk_drewN ?_ _ | refine blk_drew ?_ | refine blk_alloc ?_ _)); refine blk_far ?_ NB331_343.out _; (with_reducible repeat (first | refine blk_drewN ?_ _ | refine blk_drew ?_ | refine blk_alloc ?_ _)); exact BK331.out) hb); replace BK343 := Aside0.mk (blk_below (g := gb343) (o := .cells #[.slice Ao93 t339.length co93] 34 (0, 0)) (by (with_reducible repeat (first | refine blk_drewN ?_ _ | refine blk_drew ?_ | refine blk_alloc ?_ _)); refine blk_put (cs := #[.slice none 0 0]) ?_ 0 _ rfl; (with_reducible repeat (first | refine blk_drewN ?_ _ | refine blk_drew ?_ | refine blk_alloc ?_ _)); exact BK343.out) hb); replace HB := Aside0.mk (below_step (bB HB) hb); (try clear hb); (try clear hb2); (try clear hk); (try clear hi); (try clear ho0)) | ((with_reducible refine gate_dst (N := 18) rfl ?_); (try (refine gate_guard (by rfl) ?_; dsimp only)); refine box_event ?hg (N := 18) ?hd (cs := #[.slice none 0 0]) (t := 34) ?hr ?_; (case hd => rfl); (case hg => rfl); (case hr => first | (go_simp; done) | (go_simp; rfl)); intro gb348 hg w98 hbox hb; replace HO_77 := Aside0.mk (Kd.R_below (aR HO_77) hb); replace HO_327000 := Aside0.mk (Kd.R_below (aR HO_327000) hb); replace HO_332000 := Aside0.mk (Kd.R_below (aR HO_332000) hb); replace HO341 := Aside0.mk (Kd.R_below (aR HO341) hb); replace HO346 := Aside0.mk (Kd.R_below (aR HO346) hb); have BK348 := Aside0.mk (hbox); have GW348 := Aside0.mk ((by rw [hg]; exact (below_size (bB HB)) : w.heap.size ≤ gb348)); have GE348 := Aside0.mk ((by rw [hg]; exact (below_size (bB HB)) : w.heap.size ≤ gb348)); replace HB := Aside0.mk (below_step (bB HB) hb); have NB326_348 := Aside0.mk ((by rw [hg]; exact Nat.ne_of_lt (blk_lt (g := gb326) (o := .cells #[.slice Ao20 t322.length co20] 34 (0, 0)) (kB BK326)) : gb326 ≠ gb348)); have NB348_326 := Aside0.mk ((by rw [hg]; exact Nat.ne_of_gt (blk_lt (g := gb326) (o := .cells #[.slice Ao20 t322.length co20] 34 (0, 0)) (kB BK326)) : gb348 ≠ gb326)); replace BK326 := Aside0.mk (blk_below (g := gb326) (o := .cells #[.slice Ao20 t322.length co20] 34 (0, 0)) (kB BK326) hb); have NB331_348 := Aside0.mk ((by rw [hg]; exact Nat.ne_of_lt (blk_lt (g := gb331) (o := .cells #[.slice Ao24 t327.length co24] 34 (0, 0)) (kB BK331)) : gb331 ≠ gb348)); have NB348_331 := Aside0.mk ((by rw [hg]; exact Nat.ne_of_gt (blk_lt (g := gb331) (o := .cells #[.slice Ao24 t327.length co24] 34 (0, 0)) (kB BK331)) : gb348 ≠ gb331)); replace BK331 := Aside0.mk (blk_below (g := gb331) (o := .cells #[.slice Ao24 t327.length co24] 34 (0, 0)) (kB BK331) hb); have NB343_348 := Aside0.mk ((by rw [hg]; exact Nat.ne_of_lt (blk_lt (g := gb343) (o := .cells #[.slice Ao93 t339.length co93] 34 (0, 0)) (kB BK343)) : gb343 ≠ gb348)); have NB348_343 := Aside0.mk ((by rw [hg]; exact Nat.ne_of_gt (blk_lt (g := gb343) (o := .cells #[.slice Ao93 t339.length co93] 34 (0, 0)) (kB BK343)) : gb348 ≠ gb343)); replace BK343 := Aside0.mk (blk_below (g := gb343) (o := .cells #[.slice Ao93 t339.length co93] 34 (0, 0)) (kB BK343) hb); clear hb hbox hg; obtain ⟨Ao99, co99, eo99⟩ := Kd.R_slice HO346.out; subst eo99; have hnb100 := NB348_326.out; have hnc100 := NB326_348.out; have hnb101 := NB348_331.out; have hnc101 := NB331_348.out; have hnb102 := NB348_343.out; have hnc102 := NB343_348.out; have hcz103_0 : w98.cell? ⟨gb348, 0, none⟩ = some (.slice none 0 0) := (blk_cell BK348.out 0).trans rfl; have hfz103_0 := blk_frozen BK348.out 0; have hcz104_0 : w98.cell? ⟨gb343, 0, none⟩ = some (.slice Ao93 t339.length co93) := (blk_cell BK343.out 0).trans rfl; have hfz104_0 := blk_frozen BK343.out 0) | ((with_reducible refine gate_callee (f := 19) rfl ?_); refine goesL_ (some 110) rfl rfl Try.func19 (by kernel_rfl) rfl #[.agg #[.slice Ao93 t339.length co93], .int .i64 t342] rfl (by (try simp only [List.map_toArray, List.map_cons, List.map_nil]); first | done | rfl | (simp only [List.length_drop, List.length_take]; rfl)) ?_; (with_reducible refine (spec_PutFilter.calls k1 _ _ t339 t342 t349 t352 _ ?side1 ?side2 A42.out).mono ?_); (case side1 => refine (Kd.R_reads' (e := 4) (base := w.heap.size) (ok := fun k_ => (((True ∧ some k_ ≠ (.slice Ao20 t322.length co20 : Value).ownBlock) ∧ some k_ ≠ (.slice Ao24 t327.length co24 : Value).ownBlock) ∧ some k_ ≠ (.slice Ao99 t344.length co99 : Value).ownBlock)) (n := t339.length) (c := co93) ?_).2.2; exact (by (with_reducible repeat (first | apply Kd.R_alloc | apply Kd.R_drewN | apply Kd.R_drew)); exact (Kd.R_mono (Kd.R_far (p := ⟨gb348, 0, none⟩) (Kd.R_types HO341.out BK348.out (by decide)) (fun _ hk => hk.2) (.slice Ao99 t344.length co99)) (fun _ h_ => h_.1)))); (case side2 => exact (Kd.R_reads' HO341.out).2.1); rintro e w105 ⟨v350, rfl, ho0, hb⟩; refine ⟨_, rfl, ?_⟩; replace HO_77 := Aside0.mk (Kd.R_below (by (with_reducible repeat (first | apply Kd.R_alloc | apply Kd.R_drewN | apply Kd.R_drew)); exact (Kd.R_mono (Kd.R_far (p := ⟨gb348, 0, none⟩) (Kd.R_types HO_77.out BK348.out (by decide)) (fun _ hk => hk.2) (.slice Ao99 t344.length co99)) (fun _ h_ => h_.1))) hb); have HO351 := Aside0.mk (Kd.R_lower (Kd.R_new' (Kd.R_new' (Kd.R_new' (Kd.R_new' ho0 (Kd.R_lt (by (with_reducible repeat (first | apply Kd.R_alloc | apply Kd.R_drewN | apply Kd.R_drew)); exact (Kd.R_mono (Kd.R_far (p := ⟨gb348, 0, none⟩) (Kd.R_types HO_327000.out BK348.out (by decide)) (fun _ hk => hk.2) (.slice Ao99 t344.length co99)) (fun _ h_ => h_.1))))) (Kd.R_lt (by (with_reducible repeat (first | apply Kd.R_alloc | apply Kd.R_drewN | apply Kd.R_drew)); exact (Kd.R_mono (Kd.R_far (p := ⟨gb348, 0, none⟩) (Kd.R_types HO_332000.out BK348.out (by decide)) (fun _ hk => hk.2) (.slice Ao99 t344.length co99)) (fun _ h_ => h_.1))))) (Kd.R_lt (by (with_reducible repeat (first | apply Kd.R_alloc | apply Kd.R_drewN | apply Kd.R_drew)); exact (Kd.R_mono (Kd.R_far (p := ⟨gb348, 0, none⟩) (Kd.R_types HO341.out BK348.out (by decide)) (fun _ hk => hk.2) (.slice Ao99 t344.length co99)) (fun _ h_ => h_.1))))) (Kd.R_lt (by (with_reducible repeat (first | apply Kd.R_alloc | apply Kd.R_drewN | apply Kd.R_drew)); exact (Kd.R_mono (Kd.R_far (p := ⟨gb348, 0, none⟩) (Kd.R_types HO346.out BK348.out (by decide)) (fun _ hk => hk.2) (.slice Ao99 t344.length co99)) (fun _ h_ => h_.1))))) (below_size (bB HB))); replace HO_327000 := Aside0.mk (Kd.R_elder' (by (with_reducible repeat (first | apply Kd.R_alloc | apply Kd.R_drewN | apply Kd.R_drew)); exact (Kd.R_mono (Kd.R_far (p := ⟨gb348, 0, none⟩) (Kd.R_types HO_327000.out BK348.out (by decide)) (fun _ hk => hk.2) (.slice Ao99 t344.length co99)) (fun _ h_ => h_.1))) (Kd.R_base ho0) hb); replace HO_332000 := Aside0.mk (Kd.R_elder' (by (with_reducible repeat (first | apply Kd.R_alloc | apply Kd.R_drewN | apply Kd.R_drew)); exact (Kd.R_mono (Kd.R_far (p := ⟨gb348, 0, none⟩) (Kd.R_types HO_332000.out BK348.out (by decide)) (fun _ hk => hk.2) (.slice Ao99 t344.length co99)) (fun _ h_ => h_.1))) (Kd.R_base ho0) hb); replace HO341 := Aside0.mk (Kd.R_elder' (by (with_reducible repeat (first | apply Kd.R_alloc | apply Kd.R_drewN | apply Kd.R_drew)); exact (Kd.R_mono (Kd.R_far (p := ⟨gb348, 0, none⟩) (Kd.R_types HO341.out BK348.out (by decide)) (fun _ hk => hk.2) (.slice Ao99 t344.length co99)) (fun _ h_ => h_.1))) (Kd.R_base ho0) hb); replace HO346 := Aside0.mk (Kd.R_elder' (by (with_reducible repeat (first | apply Kd.R_alloc | apply Kd.R_drewN | apply Kd.R_drew)); exact (Kd.R_mono (Kd.R_far (p := ⟨gb348, 0, none⟩) (Kd.R_types HO346.out BK348.out (by decide)) (fun _ hk => hk.2) (.slice Ao99 t344.length co99)) (fun _ h_ => h_.1))) (Kd.R_base ho0) hb); replace BK326 := Aside0.mk (blk_below (g := gb326) (o := .cells #[.slice Ao20 t322.length co20] 34 (0, 0)) (by (with_reducible repeat (first | refine blk_drewN ?_ _ | refine blk_drew ?_ | refine blk_alloc ?_ _)); refine blk_far ?_ NB326_348.out _; (with_reducible repeat (first | refine blk_drewN ?_ _ | refine blk_drew ?_ | refine blk_alloc ?_ _)); exact BK326.out) hb); replace BK331 := Aside0.mk (blk_below (g := gb331) (o := .cells #[.slice Ao24 t327.length co24] 34 (0, 0)) (by (with_reducible repeat (first | refine blk_drewN ?_ _ | refine blk_drew ?_ | refine blk_alloc ?_ _)); refine blk_far ?_ NB331_348.out _; (with_reducible repeat (first | refine blk_drewN ?_ _ | refine blk_drew ?_ | refine blk_alloc ?_ _)); exact BK331.out) hb); replace BK343 := Aside0.mk (blk_below (g := gb343) (o := .cells #[.slice Ao93 t339.length co93] 34 (0, 0)) (by (with_reducible repeat (first | refine blk_drewN ?_ _ | refine blk_drew ?_ | refine blk_alloc ?_ _)); refine blk_far ?_ NB343_348.out _; (with_reducible repeat (first | refine blk_drewN ?_ _ | refine blk_drew ?_ | refine blk_alloc ?_ _)); exact BK343.out) hb); replace BK348 := Aside0.mk (blk_below (g := gb348) (o := .cells #[.slice Ao99 t344.length co99] 34 (0, 0)) (by (with_reducible repeat (first | refine blk_drewN ?_ _ | refine blk_drew ?_ | refine blk_alloc ?_ _)); refine blk_put (cs := #[.slice none 0 0]) ?_ 0 _ rfl; (with_reducible repeat (first | refine blk_drewN ?_ _ | refine blk_drew ?_ | refine blk_alloc ?_ _)); exact BK348.out) hb); replace HB := Aside0.mk (below_step (bB HB) hb); (try clear hb); (try clear hb2); (try clear hk); (try clear hi); (try clear ho0)) | ((with_reducible refine gate_dst (N := 20) rfl ?_); (try (refine gate_guard (by rfl) ?_; dsimp only)); refine box_event ?hg (N := 20) ?hd (cs := #[.slice none 0 0]) (t := 34) ?hr ?_; (case hd => rfl); (case hg => rfl); (case hr => first | (go_simp; done) | (go_simp; rfl)); intro gb353 hg w106 hbox hb; replace HO_77 := Aside0.mk (Kd.R_below (aR HO_77) hb); replace HO_327000 := Aside0.mk (Kd.R_below (aR HO_327000) hb); replace HO_332000 := Aside0.mk (Kd.R_below (aR HO_332000) hb); replace HO341 := Aside0.mk (Kd.R_below (aR HO341) hb); replace HO346 := Aside0.mk (Kd.R_below (aR HO346) hb); replace HO351 := Aside0.mk (Kd.R_below (aR HO351) hb); have BK353 := Aside0.mk (hbox); have GW353 := Aside0.mk ((by rw [hg]; exact (below_size (bB HB)) : w.heap.size ≤ gb353)); have GE353 := Aside0.mk ((by rw [hg]; exact (below_size (bB HB)) : w.heap.size ≤ gb353)); replace HB := Aside0.mk (below_step (bB HB) hb); have NB326_353 := Aside0.mk ((by rw [hg]; exact Nat.ne_of_lt (blk_lt (g := gb326) (o := .cells #[.slice Ao20 t322.length co20] 34 (0, 0)) (kB BK326)) : gb326 ≠ gb353)); have NB353_326 := Aside0.mk ((by rw [hg]; exact Nat.ne_of_gt (blk_lt (g := gb326) (o := .cells #[.slice Ao20 t322.length co20] 34 (0, 0)) (kB BK326)) : gb353 ≠ gb326)); replace BK326 := Aside0.mk (blk_below (g := gb326) (o := .cells #[.slice Ao20 t322.length co20] 34 (0, 0)) (kB BK326) hb); have NB331_353 := Aside0.mk ((by rw [hg]; exact Nat.ne_of_lt (blk_lt (g := gb331) (o := .cells #[.slice Ao24 t327.length co24] 34 (0, 0)) (kB BK331)) : gb331 ≠ gb353)); have NB353_331 := Aside0.mk ((by rw [hg]; exact Nat.ne_of_gt (blk_lt (g := gb331) (o := .cells #[.slice Ao24 t327.length co24] 34 (0, 0)) (kB BK331)) : gb353 ≠ gb331)); replace BK331 := Aside0.mk (blk_below (g := gb331) (o := .cells #[.slice Ao24 t327.length co24] 34 (0, 0)) (kB BK331) hb); have NB343_353 := Aside0.mk ((by rw [hg]; exact Nat.ne_of_lt (blk_lt (g := gb343) (o := .cells #[.slice Ao93 t339.length co93] 34 (0, 0)) (kB BK343)) : gb343 ≠ gb353)); have NB353_343 := Aside0.mk ((by rw [hg]; exact Nat.ne_of_gt (blk_lt (g := gb343) (o := .cells #[.slice Ao93 t339.length co93] 34 (0, 0)) (kB BK343)) : gb353 ≠ gb343)); replace BK343 := Aside0.mk (blk_below (g := gb343) (o := .cells #[.slice Ao93 t339.length co93] 34 (0, 0)) (kB BK343) hb); have NB348_353 := Aside0.mk ((by rw [hg]; exact Nat.ne_of_lt (blk_lt (g := gb348) (o := .cells #[.slice Ao99 t344.length co99] 34 (0, 0)) (kB BK348)) : gb348 ≠ gb353)); have NB353_348 := Aside0.mk ((by rw [hg]; exact Nat.ne_of_gt (blk_lt (g := gb348) (o := .cells #[.slice Ao99 t344.length co99] 34 (0, 0)) (kB BK348)) : gb353 ≠ gb348)); replace BK348 := Aside0.mk (blk_below (g := gb348) (o := .cells #[.slice Ao99 t344.length co99] 34 (0, 0)) (kB BK348) hb); clear hb hbox hg; obtain ⟨Ao107, co107, eo107⟩ := Kd.R_slice HO351.out; subst eo107; have hnb108 := NB353_326.out; have hnc108 := NB326_353.out; have hnb109 := NB353_331.out; have hnc109 := NB331_353.out; have hnb110 := NB353_343.out; have hnc110 := NB343_353.out; have hnb111 := NB353_348.out; have hnc111 := NB348_353.out; have hcz112_0 : w106.cell? ⟨gb353, 0, none⟩ = some (.slice none 0 0) := (blk_cell BK353.out 0).trans rfl; have hfz112_0 := blk_frozen BK353.out 0; have hcz113_0 : w106.cell? ⟨gb343, 0, none⟩ = some (.slice Ao93 t339.length co93) := (blk_cell BK343.out 0).trans rfl; have hfz113_0 := blk_frozen BK343.out 0) | ((with_reducible refine gate_callee (f := 17) rfl ?_); refine goesL_ (some 116) rfl rfl Try.func17 (by kernel_rfl) rfl #[.agg #[.slice Ao93 t339.length co93], .int .i64 t342] rfl (by (try simp only [List.map_toArray, List.map_cons, List.map_nil]); first | done | rfl | (simp only [List.length_drop, List.length_take]; rfl)) ?_; (with_reducible refine (impl_MayHave.calls k1 _ _ t339 t342 t354 t355 _ ?side1 ?side2 A43.out).mono ?_); (case side1 => refine (Kd.R_reads' (e := 4) (base := w.heap.size) (ok := fun k_ => ((((True ∧ some k_ ≠ (.slice Ao20 t322.length co20 : Value).ownBlock) ∧ some k_ ≠ (.slice Ao24 t327.length co24 : Value).ownBlock) ∧ some k_ ≠ (.slice Ao99 t344.length co99 : Value).ownBlock) ∧ some k_ ≠ (.slice Ao107 t349.length co107 : Value).ownBlock)) (n := t339.length) (c := co93) ?_).2.2; exact (by (with_reducible repeat (first | apply Kd.R_alloc | apply Kd.R_drewN | apply Kd.R_drew)); exact (Kd.R_mono (Kd.R_far (p := ⟨gb353, 0, none⟩) (Kd.R_types HO341.out BK353.out (by decide)) (fun _ hk => hk.2) (.slice Ao107 t349.length co107)) (fun _ h_ => h_.1)))); (case side2 => exact (Kd.R_reads' HO341.out).2.1); rintro e w114 ⟨rfl, hb⟩; refine ⟨_, rfl, ?_⟩; replace HO_77 := Aside0.mk (Kd.R_below (by (with_reducible repeat (first | apply Kd.R_alloc | apply Kd.R_drewN | apply Kd.R_drew)); exact (Kd.R_mono (Kd.R_far (p := ⟨gb353, 0, none⟩) (Kd.R_types HO_77.out BK353.out (by decide)) (fun _ hk => hk.2) (.slice Ao107 t349.length co107)) (fun _ h_ => h_.1))) hb); replace HO_327000 := Aside0.mk (Kd.R_below (by (with_reducible repeat (first | apply Kd.R_alloc | apply Kd.R_drewN | apply Kd.R_drew)); exact (Kd.R_mono (Kd.R_far (p := ⟨gb353, 0, none⟩) (Kd.R_types HO_327000.out BK353.out (by decide)) (fun _ hk => hk.2) (.slice Ao107 t349.length co107)) (fun _ h_ => h_.1))) hb); replace HO_332000 := Aside0.mk (Kd.R_below (by (with_reducible repeat (first | apply Kd.R_alloc | apply Kd.R_drewN | apply Kd.R_drew)); exact (Kd.R_mono (Kd.R_far (p := ⟨gb353, 0, none⟩) (Kd.R_types HO_332000.out BK353.out (by decide)) (fun _ hk => hk.2) (.slice Ao107 t349.length co107)) (fun _ h_ => h_.1))) hb); replace HO341 := Aside0.mk (Kd.R_below (by (with_reducible repeat (first | apply Kd.R_alloc | apply Kd.R_drewN | apply Kd.R_drew)); exact (Kd.R_mono (Kd.R_far (p := ⟨gb353, 0, none⟩) (Kd.R_types HO341.out BK353.out (by decide)) (fun _ hk => hk.2) (.slice Ao107 t349.length co107)) (fun _ h_ => h_.1))) hb); replace HO346 := Aside0.mk (Kd.R_below (by (with_reducible repeat (first | apply Kd.R_alloc | apply Kd.R_drewN | apply Kd.R_drew)); exact (Kd.R_mono (Kd.R_far (p := ⟨gb353, 0, none⟩) (Kd.R_types HO346.out BK353.out (by decide)) (fun _ hk => hk.2) (.slice Ao107 t349.length co107)) (fun _ h_ => h_.1))) hb); replace HO351 := Aside0.mk (Kd.R_below (by (with_reducible repeat (first | apply Kd.R_alloc | apply Kd.R_drewN | apply Kd.R_drew)); exact (Kd.R_mono (Kd.R_far (p := ⟨gb353, 0, none⟩) (Kd.R_types HO351.out BK353.out (by decide)) (fun _ hk => hk.2) (.slice Ao107 t349.length co107)) (fun _ h_ => h_.1))) hb); replace BK326 := Aside0.mk (blk_below (g := gb326) (o := .cells #[.slice Ao20 t322.length co20] 34 (0, 0)) (by (with_reducible repeat (first | refine blk_drewN ?_ _ | refine blk_drew ?_ | refine blk_alloc ?_ _)); refine blk_far ?_ NB326_353.out _; (with_reducible repeat (first | refine blk_drewN ?_ _ | refine blk_drew ?_ | refine blk_alloc ?_ _)); exact BK326.out) hb); replace BK331 := Aside0.mk (blk_below (g := gb331) (o := .cells #[.slice Ao24 t327.length co24] 34 (0, 0)) (by (with_reducible repeat (first | refine blk_drewN ?_ _ | refine blk_drew ?_ | refine blk_alloc ?_ _)); refine blk_far ?_ NB331_353.out _; (with_reducible repeat (first | refine blk_drewN ?_ _ | refine blk_drew ?_ | refine blk_alloc ?_ _)); exact BK331.out) hb); replace BK343 := Aside0.mk (blk_below (g := gb343) (o := .cells #[.slice Ao93 t339.length co93] 34 (0, 0)) (by (with_reducible repeat (first | refine blk_drewN ?_ _ | refine blk_drew ?_ | refine blk_alloc ?_ _)); refine blk_far ?_ NB343_353.out _; (with_reducible repeat (first | refine blk_drewN ?_ _ | refine blk_drew ?_ | refine blk_alloc ?_ _)); exact BK343.out) hb); replace BK348 := Aside0.mk (blk_below (g := gb348) (o := .cells #[.slice Ao99 t344.length co99] 34 (0, 0)) (by (with_reducible repeat (first | refine blk_drewN ?_ _ | refine blk_drew ?_ | refine blk_alloc ?_ _)); refine blk_far ?_ NB348_353.out _; (with_reducible repeat (first | refine blk_drewN ?_ _ | refine blk_drew ?_ | refine blk_alloc ?_ _)); exact BK348.out) hb); replace BK353 := Aside0.mk (blk_below (g := gb353) (o := .cells #[.slice Ao107 t349.length co107] 34 (0, 0)) (by (with_reducible repeat (first | refine blk_drewN ?_ _ | refine blk_drew ?_ | refine blk_alloc ?_ _)); refine blk_put (cs := #[.slice none 0 0]) ?_ 0 _ rfl; (with_reducible repeat (first | refine blk_drewN ?_ _ | refine blk_drew ?_ | refine blk_alloc ?_ _)); exact BK353.out) hb); replace HB := Aside0.mk (below_step (bB HB) hb); (try clear hb); (try clear hb2); (try clear hk); (try clear hi); have hcz115_0 : w114.cell? ⟨gb343, 0, none⟩ = some (.slice Ao93 t339.length co93) := (blk_cell BK343.out 0).trans rfl; have hfz115_0 := blk_frozen BK343.out 0) | ((with_reducible refine gate_callee (f := 15) rfl ?_); refine goesL_ (some 122) rfl rfl Try.func15 (by kernel_rfl) rfl #[.agg #[.slice Ao93 t339.length co93], .int .i64 t342] rfl (by (try simp only [List.map_toArray, List.map_cons, List.map_nil]); first | done | rfl | (simp only [List.length_drop, List.length_take]; rfl)) ?_; (with_reducible refine (spec_MayHave.calls k1 _ _ t339 t342 t356 t357 _ ?side1 ?side2 A44.out).mono ?_); (case side1 => repeat (first | exact (Kd.R_reads' HO341.out).2.2 | (with_reducible refine Kd.C_alloc ?_ _) | (with_reducible refine Kd.C_drewN ?_ _) | (with_reducible refine Kd.C_drew ?_))); (case side2 => exact (Kd.R_reads' HO341.out).2.1); rintro e w116 ⟨rfl, hb⟩; refine ⟨_, rfl, ?_⟩; replace HO_77 := Aside0.mk (Kd.R_below (aR HO_77) hb); replace HO_327000 := Aside0.mk (Kd.R_below (aR HO_327000) hb); replace HO_332000 := Aside0.mk (Kd.R_below (aR HO_332000) hb); replace HO341 := Aside0.mk (Kd.R_below (aR HO341) hb); replace HO346 := Aside0.mk (Kd.R_below (aR HO346) hb); replace HO351 := Aside0.mk (Kd.R_below (aR HO351) hb); replace BK326 := Aside0.mk (blk_below (g := gb326) (o := .cells #[.slice Ao20 t322.length co20] 34 (0, 0)) (kB BK326) hb); replace BK331 := Aside0.mk (blk_below (g := gb331) (o := .cells #[.slice Ao24 t327.length co24] 34 (0, 0)) (kB BK331) hb); replace BK343 := Aside0.mk (blk_below (g := gb343) (o := .cells #[.slice Ao93 t339.length co93] 34 (0, 0)) (kB BK343) hb); replace BK348 := Aside0.mk (blk_below (g := gb348) (o := .cells #[.slice Ao99 t344.length co99] 34 (0, 0)) (kB BK348) hb); replace BK353 := Aside0.mk (blk_below (g := gb353) (o := .cells #[.slice Ao107 t349.length co107] 34 (0, 0)) (kB BK353) hb); replace HB := Aside0.mk (below_step (bB HB) hb); (try clear hb); (try clear hb2); (try clear hk); (try clear hi)))
                 replace HO_77 := Aside0.mk (Kd.R_drew HO_77.out)
                 replace HO_327000 := Aside0.mk (Kd.R_drew HO_327000.out)
                 replace HO_332000 := Aside0.mk (Kd.R_drew HO_332000.out)
                 replace HO341 := Aside0.mk (Kd.R_drew HO341.out)
                 replace HO346 := Aside0.mk (Kd.R_drew HO346.out)
                 replace HO351 := Aside0.mk (Kd.R_drew HO351.out)
                 replace BK326 := Aside0.mk (blk_drew BK326.out)
                 replace BK331 := Aside0.mk (blk_drew BK331.out)
                 replace BK343 := Aside0.mk (blk_drew BK343.out)
                 replace BK348 := Aside0.mk (blk_drew BK348.out)
                 replace BK353 := Aside0.mk (blk_drew BK353.out)
                 replace HB := Aside0.mk (below_drew1 HB.out)
                 refine start_ (n := 28) (S := fun w' => w'.cell? ⟨gb348, 0, none⟩ = some (.slice Ao99 t344.length co99) ∧ w'.cell? ⟨gb353, 0, none⟩ = some (.slice Ao107 t349.length co107) ∧ w'.cell? ⟨gb343, 0, none⟩ = some (.slice Ao93 t339.length co93)) (ds := []) #[false, false, false, false, false, false, false, false, false, false, false, false, false, false, false, false, false, false, false, false, false, false, false, false, false, false, false, false] (by kernel_rfl) rfl rfl ⟨(blk_cell BK348.out 0).trans rfl, (blk_cell BK353.out 0).trans rfl, (blk_cell BK343.out 0).trans rfl⟩ (fun hHeld => ?_); refine with_tabW laws_FnFilter.tab24 laws_FnFilter.bits24 (fun HT_ HW_ => ?_)
                 generalize w116.drew = w117 at HO_77 HO_327000 HO_332000 HO341 HO346 HO351 BK326 BK331 BK343 BK348 BK353 HB hHeld ⊢
                 refine pure_ (i := 0) (N := some 125) (v := ?_) (a' := ?_) #[true, false, false, false, false, false, false, false, false, false, false, false, false, false, false, false, false, false, false, false, false, false, false, false, false, false, false, false] rfl rfl (any_of HT_.out (by kernel_rfl)) (fun _ _ _ h => h) (Or.inl ⟨by rfl, ?_⟩) ?_ ?_
                 rotate_left
                 ·intro w'
                  go_simp
                  with_reducible rfl
                 rotate_left
                 ·simp only [Act.put, List.setIfInBounds_toArray, List.set_cons_zero, List.set_cons_succ, i64_w, i32_w]
                  rfl
                 refine pure_ (i := 1) (N := some 126) (v := ?_) (a' := ?_) #[true, true, false, false, false, false, false, false, false, false, false, false, false, false, false, false, false, false, false, false, false, false, false, false, false, false, false, false] rfl rfl (any_of HT_.out (by kernel_rfl)) (fun _ _ _ h => h) (Or.inl ⟨by rfl, ?_⟩) ?_ ?_
                 rotate_left
                 ·intro w'
                  go_simp
                  with_reducible rfl
                 rotate_left
                 ·simp only [Act.put, List.setIfInBounds_toArray, List.set_cons_zero, List.set_cons_succ, i64_w, i32_w]
                  rfl
                 refine pure_ (i := 2) (N := some 127) (v := ?_) (a' := ?_) #[true, true, true, false, false, false, false, false, false, false, false, false, false, false, false, false, false, false, false, false, false, false, false, false, false, false, false, false] rfl rfl (any_of HT_.out (by kernel_rfl)) (fun _ _ _ h => h) (Or.inl ⟨by rfl, ?_⟩) ?_ ?_
                 rotate_left
                 ·intro w'
                  go_simp
                  with_reducible rfl
                 rotate_left
                 ·simp only [Act.put, List.setIfInBounds_toArray, List.set_cons_zero, List.set_cons_succ, i64_w, i32_w]
                  rfl
                 refine pure_ (i := 3) (N := some 128) (v := ?_) (a' := ?_) #[true, true, true, true, false, false, false, false, false, false, false, false, false, false, false, false, false, false, false, false, false, false, false, false, false, false, false, false] rfl rfl (any_of HT_.out (by kernel_rfl)) (fun _ _ _ h => h) (Or.inl ⟨by rfl, ?_⟩) ?_ ?_
                 rotate_left
                 ·intro w'
                  go_simp
                  with_reducible rfl
                 rotate_left
                 ·simp only [Act.put, List.setIfInBounds_toArray, List.set_cons_zero, List.set_cons_succ, i64_w, i32_w]
                  rfl
                 refine pure_ (i := 4) (N := some 129) (v := ?_) (a' := ?_) #[true, true, true, true, true, false, false, false, false, false, false, false, false, false, false, false, false, false, false, false, false, false, false, false, false, false, false, false] rfl rfl (any_of HT_.out (by kernel_rfl)) (fun _ _ _ h => h) (Or.inl ⟨by rfl, ?_⟩) ?_ ?_
                 rotate_left
                 ·intro w'
                  go_simp
                  with_reducible rfl
                 rotate_left
                 ·simp only [Act.put, List.setIfInBounds_toArray, List.set_cons_zero, List.set_cons_succ, i64_w, i32_w]
                  rfl
                 refine pure_ (i := 6) (N := some 131) (v := ?_) (a' := ?_) #[true, true, true, true, true, false, true, false, false, false, false, false, false, false, false, false, false, false, false, false, false, false, false, false, false, false, false, false] rfl rfl (any_of HT_.out (by kernel_rfl)) (fun _ _ _ h => h) (Or.inl ⟨by rfl, ?_⟩) ?_ ?_
                 rotate_left
                 ·intro w'
                  go_simp
                  with_reducible rfl
                 rotate_left
                 ·simp only [Act.put, List.setIfInBounds_toArray, List.set_cons_zero, List.set_cons_succ, i64_w, i32_w]
                  rfl
                 refine take_ (i := 5) (N := some 130) (v := ?_) (a' := ?_) #[true, true, true, true, true, true, true, false, false, false, false, false, false, false, false, false, false, false, false, false, false, false, false, false, false, false, false, false] rfl rfl (take_ofW HT_.out HW_.out (by kernel_rfl)) (fun _ _ _ h => h) (Or.inl ⟨by rfl, ?_⟩) hHeld ?_ ?_
                 rotate_left
                 ·rintro w' ⟨s0, s1, s2⟩
                  go_simp
                  with_reducible rfl
                 rotate_left
                 ·simp only [Act.put, List.setIfInBounds_toArray, List.set_cons_zero, List.set_cons_succ, i64_w, i32_w]
                  rfl
                 refine take_ (i := 7) (N := some 132) (v := ?_) (a' := ?_) #[true, true, true, true, true, true, true, true, false, false, false, false, false, false, false, false, false, false, false, false, false, false, false, false, false, false, false, false] rfl rfl (take_ofW HT_.out HW_.out (by kernel_rfl)) (fun _ _ _ h => h) (Or.inl ⟨by rfl, ?_⟩) hHeld ?_ ?_
                 rotate_left
                 ·rintro w' ⟨s0, s1, s2⟩
                  go_simp
                  with_reducible rfl
                 rotate_left
                 ·simp only [Act.put, List.setIfInBounds_toArray, List.set_cons_zero, List.set_cons_succ, i64_w, i32_w]
                  rfl
                 refine one_ (i := 8) (N := some 133) #[true, true, true, true, true, true, true, true, true, false, false, false, false, false, false, false, false, false, false, false, false, false, false, false, false, false, false, false] rfl rfl (one_of HT_.out (by kernel_rfl)) (by decide) (fun K hK => ?_)
                 refine goes_ Try.func27 (by kernel_rfl) rfl #[.slice Ao99 t344.length co99, .slice Ao107 t349.length co107] (by rfl) rfl rfl (by (try simp only [List.map_toArray, List.map_cons, List.map_nil]); first | done | rfl | (simp only [List.length_drop, List.length_take]; rfl)) ?_
                 with_reducible refine (laws_sameBools.calls k1 _ _ t344 _ _ t349 true _ ?side1 ?side2 ?side3 ?side4 A46.out).mono ?_
                 (case side1 => repeat (first | exact (Kd.R_reads' HO346.out).2.2 | (with_reducible refine Kd.C_alloc ?_ _) | (with_reducible refine Kd.C_drewN ?_ _) | (with_reducible refine Kd.C_drew ?_)))
                 (case side2 => exact (Kd.R_reads' HO346.out).2.1)
                 (case side3 => repeat (first | exact (Kd.R_reads' HO351.out).2.2 | (with_reducible refine Kd.C_alloc ?_ _) | (with_reducible refine Kd.C_drewN ?_ _) | (with_reducible refine Kd.C_drew ?_)))
                 (case side4 => exact (Kd.R_reads' HO351.out).2.1)
                 rintro e w' ⟨rfl, ⟨nd, rfl⟩⟩
                 refine ⟨_, rfl, ?_⟩
                 refine hK.out _ _ ⟨(blk_cell BK348.out 0).trans rfl, (blk_cell BK353.out 0).trans rfl, (blk_cell BK343.out 0).trans rfl⟩ (fun hHeld => ?_)
                 clear hK K
                 refine norm_ (a' := ?_) ?_ ?_
                 rotate_left
                 ·show Act.put _ (some 133) _ = _
                  simp only [Act.put, List.setIfInBounds_toArray, List.set_cons_zero, List.set_cons_succ, i64_w, i32_w]
                  rfl
                 refine pure_ (i := 9) (N := some 134) (v := ?_) (a' := ?_) #[true, true, true, true, true, true, true, true, true, true, false, false, false, false, false, false, false, false, false, false, false, false, false, false, false, false, false, false] rfl rfl (any_of HT_.out (by kernel_rfl)) (fun _ _ _ h => h) (Or.inl ⟨by rfl, ?_⟩) ?_ ?_
                 rotate_left
                 ·intro w'
                  go_simp
                  with_reducible rfl
                 rotate_left
                 ·simp only [Act.put, List.setIfInBounds_toArray, List.set_cons_zero, List.set_cons_succ, i64_w, i32_w]
                  rfl
                 refine pure_ (i := 10) (N := some 135) (v := ?_) (a' := ?_) #[true, true, true, true, true, true, true, true, true, true, true, false, false, false, false, false, false, false, false, false, false, false, false, false, false, false, false, false] rfl rfl (any_of HT_.out (by kernel_rfl)) (fun _ _ _ h => h) (Or.inl ⟨by rfl, ?_⟩) ?_ ?_
                 rotate_left
                 ·intro w'
                  go_simp
                  with_reducible rfl
                 rotate_left
                 ·simp only [Act.put, List.setIfInBounds_toArray, List.set_cons_zero, List.set_cons_succ, i64_w, i32_w]
                  rfl
                 refine pure_ (i := 11) (N := some 136) (v := ?_) (a' := ?_) #[true, true, true, true, true, true, true, true, true, true, true, true, false, false, false, false, false, false, false, false, false, false, false, false, false, false, false, false] rfl rfl (any_of HT_.out (by kernel_rfl)) (fun _ _ _ h => h) (Or.inl ⟨by rfl, ?_⟩) ?_ ?_
                 rotate_left
                 ·intro w'
                  go_simp
                  with_reducible rfl
                 rotate_left
                 ·simp only [Act.put, List.setIfInBounds_toArray, List.set_cons_zero, List.set_cons_succ, i64_w, i32_w]
                  rfl
                 refine pure_ (i := 12) (N := some 137) (v := ?_) (a' := ?_) #[true, true, true, true, true, true, true, true, true, true, true, true, true, false, false, false, false, false, false, false, false, false, false, false, false, false, false, false] rfl rfl (any_of HT_.out (by kernel_rfl)) (fun _ _ _ h => h) (Or.inl ⟨by rfl, ?_⟩) ?_ ?_
                 rotate_left
                 ·intro w'
                  go_simp
                  with_reducible rfl
                 rotate_left
                 ·simp only [Act.put, List.setIfInBounds_toArray, List.set_cons_zero, List.set_cons_succ, i64_w, i32_w]
                  rfl
                 refine pure_ (i := 13) (N := some 138) (v := ?_) (a' := ?_) #[true, true, true, true, true, true, true, true, true, true, true, true, true, true, false, false, false, false, false, false, false, false, false, false, false, false, false, false] rfl rfl (any_of HT_.out (by kernel_rfl)) (fun _ _ _ h => h) (Or.inl ⟨by rfl, ?_⟩) ?_ ?_
                 rotate_left
                 ·intro w'
                  go_simp
                  with_reducible rfl
                 rotate_left
                 ·simp only [Act.put, List.setIfInBounds_toArray, List.set_cons_zero, List.set_cons_succ, i64_w, i32_w]
                  rfl
                 refine pure_ (i := 14) (N := some 139) (v := ?_) (a' := ?_) #[true, true, true, true, true, true, true, true, true, true, true, true, true, true, true, false, false, false, false, false, false, false, false, false, false, false, false, false] rfl rfl (any_of HT_.out (by kernel_rfl)) (fun _ _ _ h => h) (Or.inl ⟨by rfl, ?_⟩) ?_ ?_
                 rotate_left
                 ·intro w'
                  go_simp
                  with_reducible rfl
                 rotate_left
                 ·simp only [Act.put, List.setIfInBounds_toArray, List.set_cons_zero, List.set_cons_succ, i64_w, i32_w]
                  rfl
                 refine pure_ (i := 15) (N := some 140) (v := ?_) (a' := ?_) #[true, true, true, true, true, true, true, true, true, true, true, true, true, true, true, true, false, false, false, false, false, false, false, false, false, false, false, false] rfl rfl (any_of HT_.out (by kernel_rfl)) (fun _ _ _ h => h) (Or.inl ⟨by rfl, ?_⟩) ?_ ?_
                 rotate_left
                 ·intro w'
                  go_simp
                  with_reducible rfl
                 rotate_left
                 ·simp only [Act.put, List.setIfInBounds_toArray, List.set_cons_zero, List.set_cons_succ, i64_w, i32_w]
                  rfl
                 refine pure_ (i := 16) (N := some 141) (v := ?_) (a' := ?_) #[true, true, true, true, true, true, true, true, true, true, true, true, true, true, true, true, true, false, false, false, false, false, false, false, false, false, false, false] rfl rfl (any_of HT_.out (by kernel_rfl)) (fun _ _ _ h => h) (Or.inl ⟨by rfl, ?_⟩) ?_ ?_
                 rotate_left
                 ·intro w'
                  go_simp
                  with_reducible rfl
                 rotate_left
                 ·simp only [Act.put, List.setIfInBounds_toArray, List.set_cons_zero, List.set_cons_succ, i64_w, i32_w]
                  rfl
                 refine pure_ (i := 17) (N := some 142) (v := ?_) (a' := ?_) #[true, true, true, true, true, true, true, true, true, true, true, true, true, true, true, true, true, true, false, false, false, false, false, false, false, false, false, false] rfl rfl (any_of HT_.out (by kernel_rfl)) (fun _ _ _ h => h) (Or.inl ⟨by rfl, ?_⟩) ?_ ?_
                 rotate_left
                 ·intro w'
                  go_simp
                  with_reducible rfl
                 rotate_left
                 ·simp only [Act.put, List.setIfInBounds_toArray, List.set_cons_zero, List.set_cons_succ, i64_w, i32_w]
                  rfl
                 refine pure_ (i := 18) (N := some 143) (v := ?_) (a' := ?_) #[true, true, true, true, true, true, true, true, true, true, true, true, true, true, true, true, true, true, true, false, false, false, false, false, false, false, false, false] rfl rfl (any_of HT_.out (by kernel_rfl)) (fun _ _ _ h => h) (Or.inl ⟨by rfl, ?_⟩) ?_ ?_
                 rotate_left
                 ·intro w'
                  go_simp
                  with_reducible rfl
                 rotate_left
                 ·simp only [Act.put, List.setIfInBounds_toArray, List.set_cons_zero, List.set_cons_succ, i64_w, i32_w]
                  rfl
                 refine pure_ (i := 19) (N := some 144) (v := ?_) (a' := ?_) #[true, true, true, true, true, true, true, true, true, true, true, true, true, true, true, true, true, true, true, true, false, false, false, false, false, false, false, false] rfl rfl (any_of HT_.out (by kernel_rfl)) (fun _ _ _ h => h) (Or.inl ⟨by rfl, ?_⟩) ?_ ?_
                 rotate_left
                 ·intro w'
                  go_simp
                  with_reducible rfl
                 rotate_left
                 ·simp only [Act.put, List.setIfInBounds_toArray, List.set_cons_zero, List.set_cons_succ, i64_w, i32_w]
                  rfl
                 refine pure_ (i := 20) (N := some 145) (v := ?_) (a' := ?_) #[true, true, true, true, true, true, true, true, true, true, true, true, true, true, true, true, true, true, true, true, true, false, false, false, false, false, false, false] rfl rfl (any_of HT_.out (by kernel_rfl)) (fun _ _ _ h => h) (Or.inl ⟨by rfl, ?_⟩) ?_ ?_
                 rotate_left
                 ·intro w'
                  go_simp
                  with_reducible rfl
                 rotate_left
                 ·simp only [Act.put, List.setIfInBounds_toArray, List.set_cons_zero, List.set_cons_succ, i64_w, i32_w]
                  rfl
                 refine pure_ (i := 21) (N := some 146) (v := ?_) (a' := ?_) #[true, true, true, true, true, true, true, true, true, true, true, true, true, true, true, true, true, true, true, true, true, true, false, false, false, false, false, false] rfl rfl (any_of HT_.out (by kernel_rfl)) (fun _ _ _ h => h) (Or.inl ⟨by rfl, ?_⟩) ?_ ?_
                 rotate_left
                 ·intro w'
                  go_simp
                  with_reducible rfl
                 rotate_left
                 ·simp only [Act.put, List.setIfInBounds_toArray, List.set_cons_zero, List.set_cons_succ, i64_w, i32_w]
                  rfl
                 refine take_ (i := 22) (N := some 147) (v := ?_) (a' := ?_) #[true, true, true, true, true, true, true, true, true, true, true, true, true, true, true, true, true, true, true, true, true, true, true, false, false, false, false, false] rfl rfl (take_ofW HT_.out HW_.out (by kernel_rfl)) (fun _ _ _ h => h) (Or.inl ⟨by rfl, ?_⟩) hHeld ?_ ?_
                 rotate_left
                 ·rintro w' ⟨s0, s1, s2⟩
                  go_simp
                  with_reducible rfl
                 rotate_left
                 ·simp only [Act.put, List.setIfInBounds_toArray, List.set_cons_zero, List.set_cons_succ, i64_w, i32_w]
                  rfl
                 refine take_ (i := 24) (N := some 149) (v := ?_) (a' := ?_) #[true, true, true, true, true, true, true, true, true, true, true, true, true, true, true, true, true, true, true, true, true, true, true, false, true, false, false, false] rfl rfl (take_ofW HT_.out HW_.out (by kernel_rfl)) (fun _ _ _ h => h) (Or.inl ⟨by rfl, ?_⟩) hHeld ?_ ?_
                 rotate_left
                 ·rintro w' ⟨s0, s1, s2⟩
                  go_simp
                  with_reducible rfl
                 rotate_left
                 ·simp only [Act.put, List.setIfInBounds_toArray, List.set_cons_zero, List.set_cons_succ, i64_w, i32_w]
                  rfl
                 refine one_ (i := 23) (N := some 148) #[true, true, true, true, true, true, true, true, true, true, true, true, true, true, true, true, true, true, true, true, true, true, true, true, true, false, false, false] rfl rfl (one_of HT_.out (by kernel_rfl)) (by decide) (fun K hK => ?_)
                 refine goes_ Try.func29 (by kernel_rfl) rfl #[.agg #[.slice Ao93 t339.length co93]] (by rfl) rfl rfl (by (try simp only [List.map_toArray, List.map_cons, List.map_nil]); first | done | rfl | (simp only [List.length_drop, List.length_take]; rfl)) ?_
                 with_reducible refine (impl_GoodFilter.calls _ _ t339 t359 _ ?side1 ?side2 A50.out).mono ?_
                 (case side1 => repeat (first | exact (Kd.R_reads' HO341.out).2.2 | (with_reducible refine Kd.C_alloc ?_ _) | (with_reducible refine Kd.C_drewN ?_ _) | (with_reducible refine Kd.C_drew ?_)))
                 (case side2 => exact (Kd.R_reads' HO341.out).2.1)
                 rintro e w118 ⟨rfl, hb⟩
                 refine ⟨_, rfl, ?_⟩
                 replace HO_77 := Aside0.mk (Kd.R_below (aR HO_77) hb)
                 replace HO_327000 := Aside0.mk (Kd.R_below (aR HO_327000) hb)
                 replace HO_332000 := Aside0.mk (Kd.R_below (aR HO_332000) hb)
                 replace HO341 := Aside0.mk (Kd.R_below (aR HO341) hb)
                 replace HO346 := Aside0.mk (Kd.R_below (aR HO346) hb)
                 replace HO351 := Aside0.mk (Kd.R_below (aR HO351) hb)
                 replace BK326 := Aside0.mk (blk_below (g := gb326) (o := .cells #[.slice Ao20 t322.length co20] 34 (0, 0)) (kB BK326) hb)
                 replace BK331 := Aside0.mk (blk_below (g := gb331) (o := .cells #[.slice Ao24 t327.length co24] 34 (0, 0)) (kB BK331) hb)
                 replace BK343 := Aside0.mk (blk_below (g := gb343) (o := .cells #[.slice Ao93 t339.length co93] 34 (0, 0)) (kB BK343) hb)
                 replace BK348 := Aside0.mk (blk_below (g := gb348) (o := .cells #[.slice Ao99 t344.length co99] 34 (0, 0)) (kB BK348) hb)
                 replace BK353 := Aside0.mk (blk_below (g := gb353) (o := .cells #[.slice Ao107 t349.length co107] 34 (0, 0)) (kB BK353) hb)
                 replace HB := Aside0.mk (below_step (bB HB) hb)
                 (try clear hb);(try clear hb2);(try clear hk);(try clear hi)
                 refine hK.out _ _ ⟨(blk_cell BK348.out 0).trans rfl, (blk_cell BK353.out 0).trans rfl, (blk_cell BK343.out 0).trans rfl⟩ (fun hHeld => ?_)
                 clear hK K
                 refine norm_ (a' := ?_) ?_ ?_
                 rotate_left
                 ·show Act.put _ (some 148) _ = _
                  simp only [Act.put, List.setIfInBounds_toArray, List.set_cons_zero, List.set_cons_succ, i64_w, i32_w]
                  rfl
                 refine one_ (i := 25) (N := some 150) #[true, true, true, true, true, true, true, true, true, true, true, true, true, true, true, true, true, true, true, true, true, true, true, true, true, true, false, false] rfl rfl (one_of HT_.out (by kernel_rfl)) (by decide) (fun K hK => ?_)
                 refine goes_ Try.func31 (by kernel_rfl) rfl #[.agg #[.slice Ao93 t339.length co93]] (by rfl) rfl rfl (by (try simp only [List.map_toArray, List.map_cons, List.map_nil]); first | done | rfl | (simp only [List.length_drop, List.length_take]; rfl)) ?_
                 with_reducible refine (spec_GoodFilter.calls _ _ t339 t360 _ ?side1 ?side2 A51.out).mono ?_
                 (case side1 => repeat (first | exact (Kd.R_reads' HO341.out).2.2 | (with_reducible refine Kd.C_alloc ?_ _) | (with_reducible refine Kd.C_drewN ?_ _) | (with_reducible refine Kd.C_drew ?_)))
                 (case side2 => exact (Kd.R_reads' HO341.out).2.1)
                 rintro e w119 ⟨rfl, hb⟩
                 refine ⟨_, rfl, ?_⟩
                 replace HO_77 := Aside0.mk (Kd.R_below (aR HO_77) hb)
                 replace HO_327000 := Aside0.mk (Kd.R_below (aR HO_327000) hb)
                 replace HO_332000 := Aside0.mk (Kd.R_below (aR HO_332000) hb)
                 replace HO341 := Aside0.mk (Kd.R_below (aR HO341) hb)
                 replace HO346 := Aside0.mk (Kd.R_below (aR HO346) hb)
                 replace HO351 := Aside0.mk (Kd.R_below (aR HO351) hb)
                 replace BK326 := Aside0.mk (blk_below (g := gb326) (o := .cells #[.slice Ao20 t322.length co20] 34 (0, 0)) (kB BK326) hb)
                 replace BK331 := Aside0.mk (blk_below (g := gb331) (o := .cells #[.slice Ao24 t327.length co24] 34 (0, 0)) (kB BK331) hb)
                 replace BK343 := Aside0.mk (blk_below (g := gb343) (o := .cells #[.slice Ao93 t339.length co93] 34 (0, 0)) (kB BK343) hb)
                 replace BK348 := Aside0.mk (blk_below (g := gb348) (o := .cells #[.slice Ao99 t344.length co99] 34 (0, 0)) (kB BK348) hb)
                 replace BK353 := Aside0.mk (blk_below (g := gb353) (o := .cells #[.slice Ao107 t349.length co107] 34 (0, 0)) (kB BK353) hb)
                 replace HB := Aside0.mk (below_step (bB HB) hb)
                 (try clear hb);(try clear hb2);(try clear hk);(try clear hi)
                 refine hK.out _ _ ⟨(blk_cell BK348.out 0).trans rfl, (blk_cell BK353.out 0).trans rfl, (blk_cell BK343.out 0).trans rfl⟩ (fun hHeld => ?_)
                 clear hK K
                 refine norm_ (a' := ?_) ?_ ?_
                 rotate_left
                 ·show Act.put _ (some 150) _ = _
                  simp only [Act.put, List.setIfInBounds_toArray, List.set_cons_zero, List.set_cons_succ, i64_w, i32_w]
                  rfl
                 refine pure_ (i := 26) (N := some 151) (v := ?_) (a' := ?_) #[true, true, true, true, true, true, true, true, true, true, true, true, true, true, true, true, true, true, true, true, true, true, true, true, true, true, true, false] rfl rfl (any_of HT_.out (by kernel_rfl)) (fun _ _ _ h => h) (Or.inl ⟨by rfl, ?_⟩) ?_ ?_
                 rotate_left
                 ·intro w'
                  go_simp
                  with_reducible rfl
                 rotate_left
                 ·simp only [Act.put, List.setIfInBounds_toArray, List.set_cons_zero, List.set_cons_succ, i64_w, i32_w]
                  rfl
                 refine pure_ (i := 27) (N := some 152) (v := ?_) (a' := ?_) #[true, true, true, true, true, true, true, true, true, true, true, true, true, true, true, true, true, true, true, true, true, true, true, true, true, true, true, true] rfl rfl (any_of HT_.out (by kernel_rfl)) (fun _ _ _ h => h) (Or.inl ⟨by rfl, ?_⟩) ?_ ?_
                 rotate_left
                 ·intro w'
                  go_simp
                  with_reducible rfl
                 rotate_left
                 ·simp only [Act.put, List.setIfInBounds_toArray, List.set_cons_zero, List.set_cons_succ, i64_w, i32_w]
                  rfl
                 refine done_ (done_of HT_.out (by kernel_rfl)) ?_
                 try go_wp2
                 go_ret
                 exact ⟨by first | rfl | (simp [errW_none, errW_some] <;> rfl) | (simp [*, errW_none, errW_some] <;> rfl), bB HB⟩
            ·replace c47 := Bool.eq_false_iff.mpr c47
             subst c47
             have H1 : (none) = some r := by rw [if_neg (show ¬ (false = true) by decide)] at H; exact H
             clear H
             have H := H1
             clear H1
             exact absurd H (by simp)
      ·replace c14 := Bool.eq_false_iff.mpr c14
       subst c14
       have H1 : (none) = some r := by rw [if_neg (show ¬ (false = true) by decide)] at H; exact H
       clear H
       have H := H1
       clear H1
       exact absurd H (by simp)
     ·replace c13 := Bool.eq_false_iff.mpr c13
      subst c13
      have H1 : (none) = some r := by rw [if_neg (show ¬ (false = true) by decide)] at H; exact H
      clear H
      have H := H1
      clear H1
      exact absurd H (by simp)
    ·replace c10 := Bool.eq_false_iff.mpr c10
     subst c10
     have H1 : ((spec_DrawPutFilter.f k l1).bind fun bt364 => ((impl_PutFilter.f k bt364.1 bt364.2).bind fun bt369 => ((spec_PutFilter.f k bt364.1 bt364.2).bind fun bt374 => ((impl_MayHave.f k bt364.1 bt364.2).bind fun bt379 => ((spec_MayHave.f k bt364.1 bt364.2).bind fun bt381 => (if (bt369.2 != bt374.2) = true then (none) else ((laws_sameBools.f k bt369.1 bt374.1).bind fun t383 => (if t383 = true then (if (bt379.2 != bt381.2) = true then (none) else (if (bt379.1 != bt381.1) = true then (none) else ((impl_GoodFilter.f bt364.1).bind fun t384 => ((spec_GoodFilter.f bt364.1).bind fun t385 => (if (t384 != t385) = true then (none) else (if bt369.2 = true then ((impl_MayHave.f k bt369.1 bt364.2).bind fun bt386 => (if bt386.2 = true then (if bt386.1 = true then ((laws_sameBools.f k bt369.1 bt364.1).bind fun t388 => (some (bt379.1 == t388))) else (none)) else (none))) else (some true))))))) else (none))))))))) = some r := by rw [if_neg (show ¬ (false = true) by decide)] at H; exact H
     clear H
     have H := H1
     clear H1
     replace H := Option.bind_eq_some_iff.mp H
     obtain ⟨⟨t364, t367⟩, A1200, H⟩ := H
     replace H : ((impl_PutFilter.f k t364 t367).bind fun bt369 => ((spec_PutFilter.f k t364 t367).bind fun bt374 => ((impl_MayHave.f k t364 t367).bind fun bt379 => ((spec_MayHave.f k t364 t367).bind fun bt381 => (if (bt369.2 != bt374.2) = true then (none) else ((laws_sameBools.f k bt369.1 bt374.1).bind fun t383 => (if t383 = true then (if (bt379.2 != bt381.2) = true then (none) else (if (bt379.1 != bt381.1) = true then (none) else ((impl_GoodFilter.f t364).bind fun t384 => ((spec_GoodFilter.f t364).bind fun t385 => (if (t384 != t385) = true then (none) else (if bt369.2 = true then ((impl_MayHave.f k bt369.1 t367).bind fun bt386 => (if bt386.2 = true then (if bt386.1 = true then ((laws_sameBools.f k bt369.1 t364).bind fun t388 => (some (bt379.1 == t388))) else (none)) else (none))) else (some true))))))) else (none)))))))) = some r := H
     have A120 := Aside0.mk A1200
     clear A1200
     replace H := Option.bind_eq_some_iff.mp H
     obtain ⟨⟨t369, t372⟩, A1210, H⟩ := H
     replace H : ((spec_PutFilter.f k t364 t367).bind fun bt374 => ((impl_MayHave.f k t364 t367).bind fun bt379 => ((spec_MayHave.f k t364 t367).bind fun bt381 => (if (t372 != bt374.2) = true then (none) else ((laws_sameBools.f k t369 bt374.1).bind fun t383 => (if t383 = true then (if (bt379.2 != bt381.2) = true then (none) else (if (bt379.1 != bt381.1) = true then (none) else ((impl_GoodFilter.f t364).bind fun t384 => ((spec_GoodFilter.f t364).bind fun t385 => (if (t384 != t385) = true then (none) else (if t372 = true then ((impl_MayHave.f k t369 t367).bind fun bt386 => (if bt386.2 = true then (if bt386.1 = true then ((laws_sameBools.f k t369 t364).bind fun t388 => (some (bt379.1 == t388))) else (none)) else (none))) else (some true))))))) else (none))))))) = some r := H
     have A121 := Aside0.mk A1210
     clear A1210
     replace H := Option.bind_eq_some_iff.mp H
     obtain ⟨⟨t374, t377⟩, A1220, H⟩ := H
     replace H : ((impl_MayHave.f k t364 t367).bind fun bt379 => ((spec_MayHave.f k t364 t367).bind fun bt381 => (if (t372 != t377) = true then (none) else ((laws_sameBools.f k t369 t374).bind fun t383 => (if t383 = true then (if (bt379.2 != bt381.2) = true then (none) else (if (bt379.1 != bt381.1) = true then (none) else ((impl_GoodFilter.f t364).bind fun t384 => ((spec_GoodFilter.f t364).bind fun t385 => (if (t384 != t385) = true then (none) else (if t372 = true then ((impl_MayHave.f k t369 t367).bind fun bt386 => (if bt386.2 = true then (if bt386.1 = true then ((laws_sameBools.f k t369 t364).bind fun t388 => (some (bt379.1 == t388))) else (none)) else (none))) else (some true))))))) else (none)))))) = some r := H
     have A122 := Aside0.mk A1220
     clear A1220
     replace H := Option.bind_eq_some_iff.mp H
     obtain ⟨⟨t379, t380⟩, A1230, H⟩ := H
     replace H : ((spec_MayHave.f k t364 t367).bind fun bt381 => (if (t372 != t377) = true then (none) else ((laws_sameBools.f k t369 t374).bind fun t383 => (if t383 = true then (if (t380 != bt381.2) = true then (none) else (if (t379 != bt381.1) = true then (none) else ((impl_GoodFilter.f t364).bind fun t384 => ((spec_GoodFilter.f t364).bind fun t385 => (if (t384 != t385) = true then (none) else (if t372 = true then ((impl_MayHave.f k t369 t367).bind fun bt386 => (if bt386.2 = true then (if bt386.1 = true then ((laws_sameBools.f k t369 t364).bind fun t388 => (some (t379 == t388))) else (none)) else (none))) else (some true))))))) else (none))))) = some r := H
     have A123 := Aside0.mk A1230
     clear A1230
     replace H := Option.bind_eq_some_iff.mp H
     obtain ⟨⟨t381, t382⟩, A1240, H⟩ := H
     replace H : (if (t372 != t377) = true then (none) else ((laws_sameBools.f k t369 t374).bind fun t383 => (if t383 = true then (if (t380 != t382) = true then (none) else (if (t379 != t381) = true then (none) else ((impl_GoodFilter.f t364).bind fun t384 => ((spec_GoodFilter.f t364).bind fun t385 => (if (t384 != t385) = true then (none) else (if t372 = true then ((impl_MayHave.f k t369 t367).bind fun bt386 => (if bt386.2 = true then (if bt386.1 = true then ((laws_sameBools.f k t369 t364).bind fun t388 => (some (t379 == t388))) else (none)) else (none))) else (some true))))))) else (none)))) = some r := H
     have A124 := Aside0.mk A1240
     clear A1240
     by_cases c125 : (t372 != t377) = true
     ·rw [if_pos c125] at H
      have c125b0 : (t372 != t377) = true := c125
      (try (have c125b1 : decide (t372 = t377) = false := by simpa using c125))
      (try (have c125b2 : (t372 == t377) = false := by simpa using c125))
      (try (have c125b3 : ¬ (t372 = t377) := by simpa using c125))
      clear c125
      exact absurd H (by simp)
     ·rw [if_neg c125] at H
      have c125b0 : (t372 != t377) = false := by simpa using c125
      (try (have c125b1 : decide (t372 = t377) = true := by simpa using c125))
      (try (have c125b2 : (t372 == t377) = true := by simpa using c125))
      clear c125
      replace H := Option.bind_eq_some_iff.mp H
      obtain ⟨t383, A1260, H⟩ := H
      replace H : (if t383 = true then (if (t380 != t382) = true then (none) else (if (t379 != t381) = true then (none) else ((impl_GoodFilter.f t364).bind fun t384 => ((spec_GoodFilter.f t364).bind fun t385 => (if (t384 != t385) = true then (none) else (if t372 = true then ((impl_MayHave.f k t369 t367).bind fun bt386 => (if bt386.2 = true then (if bt386.1 = true then ((laws_sameBools.f k t369 t364).bind fun t388 => (some (t379 == t388))) else (none)) else (none))) else (some true))))))) else (none)) = some r := H
      have A126 := Aside0.mk A1260
      clear A1260
      by_cases c127 : t383 = true
      ·subst c127
       have H1 : (if (t380 != t382) = true then (none) else (if (t379 != t381) = true then (none) else ((impl_GoodFilter.f t364).bind fun t384 => ((spec_GoodFilter.f t364).bind fun t385 => (if (t384 != t385) = true then (none) else (if t372 = true then ((impl_MayHave.f k t369 t367).bind fun bt386 => (if bt386.2 = true then (if bt386.1 = true then ((laws_sameBools.f k t369 t364).bind fun t388 => (some (t379 == t388))) else (none)) else (none))) else (some true))))))) = some r := by rw [if_pos rfl] at H; exact H
       clear H
       have H := H1
       clear H1
       by_cases c128 : (t380 != t382) = true
       ·rw [if_pos c128] at H
        have c128b0 : (t380 != t382) = true := c128
        (try (have c128b1 : decide (t380 = t382) = false := by simpa using c128))
        (try (have c128b2 : (t380 == t382) = false := by simpa using c128))
        (try (have c128b3 : ¬ (t380 = t382) := by simpa using c128))
        clear c128
        exact absurd H (by simp)
       ·rw [if_neg c128] at H
        have c128b0 : (t380 != t382) = false := by simpa using c128
        (try (have c128b1 : decide (t380 = t382) = true := by simpa using c128))
        (try (have c128b2 : (t380 == t382) = true := by simpa using c128))
        clear c128
        by_cases c129 : (t379 != t381) = true
        ·rw [if_pos c129] at H
         have c129b0 : (t379 != t381) = true := c129
         (try (have c129b1 : decide (t379 = t381) = false := by simpa using c129))
         (try (have c129b2 : (t379 == t381) = false := by simpa using c129))
         (try (have c129b3 : ¬ (t379 = t381) := by simpa using c129))
         clear c129
         exact absurd H (by simp)
        ·rw [if_neg c129] at H
         have c129b0 : (t379 != t381) = false := by simpa using c129
         (try (have c129b1 : decide (t379 = t381) = true := by simpa using c129))
         (try (have c129b2 : (t379 == t381) = true := by simpa using c129))
         clear c129
         replace H := Option.bind_eq_some_iff.mp H
         obtain ⟨t384, A1300, H⟩ := H
         replace H : ((spec_GoodFilter.f t364).bind fun t385 => (if (t384 != t385) = true then (none) else (if t372 = true then ((impl_MayHave.f k t369 t367).bind fun bt386 => (if bt386.2 = true then (if bt386.1 = true then ((laws_sameBools.f k t369 t364).bind fun t388 => (some (t379 == t388))) else (none)) else (none))) else (some true)))) = some r := H
         have A130 := Aside0.mk A1300
         clear A1300
         replace H := Option.bind_eq_some_iff.mp H
         obtain ⟨t385, A1310, H⟩ := H
         replace H : (if (t384 != t385) = true then (none) else (if t372 = true then ((impl_MayHave.f k t369 t367).bind fun bt386 => (if bt386.2 = true then (if bt386.1 = true then ((laws_sameBools.f k t369 t364).bind fun t388 => (some (t379 == t388))) else (none)) else (none))) else (some true))) = some r := H
         have A131 := Aside0.mk A1310
         clear A1310
         by_cases c132 : (t384 != t385) = true
         ·rw [if_pos c132] at H
          exact absurd H (by simp)
         ·rw [if_neg c132] at H
          have c132b0 : (t384 != t385) = false := by simpa using c132
          (try (have c132b1 : decide (t384 = t385) = true := by simpa using c132))
          (try (have c132b2 : (t384 == t385) = true := by simpa using c132))
          clear c132
          by_cases c133 : t372 = true
          ·subst c133
           have H1 : ((impl_MayHave.f k t369 t367).bind fun bt386 => (if bt386.2 = true then (if bt386.1 = true then ((laws_sameBools.f k t369 t364).bind fun t388 => (some (t379 == t388))) else (none)) else (none))) = some r := by rw [if_pos rfl] at H; exact H
           clear H
           have H := H1
           clear H1
           replace H := Option.bind_eq_some_iff.mp H
           obtain ⟨⟨t386, t387⟩, A1340, H⟩ := H
           replace H : (if t387 = true then (if t386 = true then ((laws_sameBools.f k t369 t364).bind fun t388 => (some (t379 == t388))) else (none)) else (none)) = some r := H
           have A134 := Aside0.mk A1340
           clear A1340
           by_cases c135 : t387 = true
           ·subst c135
            have H1 : (if t386 = true then ((laws_sameBools.f k t369 t364).bind fun t388 => (some (t379 == t388))) else (none)) = some r := by rw [if_pos rfl] at H; exact H
            clear H
            have H := H1
            clear H1
            by_cases c136 : t386 = true
            ·subst c136
             have H1 : ((laws_sameBools.f k t369 t364).bind fun t388 => (some (t379 == t388))) = some r := by rw [if_pos rfl] at H; exact H
             clear H
             have H := H1
             clear H1
             replace H := Option.bind_eq_some_iff.mp H
             obtain ⟨t388, A1370, H⟩ := H
             replace H : (some (t379 == t388)) = some r := H
             have A137 := Aside0.mk A1370
             clear A1370
             obtain rfl := Option.some.inj H
             go_enter Try.func7, Try.ntmps7
             try go_wp2_with (first | ((with_reducible refine gate_callee (f := 26) rfl ?_); refine goesL_ (some 35) rfl rfl Try.func26 (by kernel_rfl) rfl #[.slice A0 l0.length c0] rfl (by (try simp only [List.map_toArray, List.map_cons, List.map_nil]); first | done | rfl | (simp only [List.length_drop, List.length_take]; rfl)) ?_; (with_reducible refine (spec_DrawFilterOf.calls k _ _ l0 t319 _ ?side1 ?side2 A4.out).mono ?_); (case side1 => repeat (first | exact HR0.out | (with_reducible refine Kd.C_alloc ?_ _) | (with_reducible refine Kd.C_drewN ?_ _) | (with_reducible refine Kd.C_drew ?_))); (case side2 => exact HC0.out); rintro e w138 ⟨v320, rfl, ho0, hb⟩; refine ⟨_, rfl, ?_⟩; have HO321 := Aside0.mk (Kd.R_lower ho0 (below_size (bB HB))); replace HB := Aside0.mk (below_step (bB HB) hb); (try clear hb); (try clear hb2); (try clear hk); (try clear hi); (try clear ho0); obtain ⟨Ao139, co139, eo139⟩ := Kd.R_slice HO321.out; subst eo139) | ((with_reducible refine gate_callee (f := 25) rfl ?_); refine goesL_ (some 38) rfl rfl Try.func25 (by kernel_rfl) rfl #[.slice Ao139 t319.length co139] rfl (by (try simp only [List.map_toArray, List.map_cons, List.map_nil]); first | done | rfl | (simp only [List.length_drop, List.length_take]; rfl)) ?_; (with_reducible refine (impl_FilterOf.calls k _ _ t319 t322 false _ ?side1 ?side2 A5.out).mono ?_); (case side1 => repeat (first | exact (Kd.R_reads' HO321.out).2.2 | (with_reducible refine Kd.C_alloc ?_ _) | (with_reducible refine Kd.C_drewN ?_ _) | (with_reducible refine Kd.C_drew ?_))); (case side2 => exact (Kd.R_reads' HO321.out).2.1); rintro e w140 ⟨v323, rfl, ho0, hb⟩; refine ⟨_, rfl, ?_⟩; replace HO321 := Aside0.mk (Kd.R_below (aR HO321) hb); have HO324 := Aside0.mk (Kd.R_lower ho0 (below_size (bB HB))); replace HB := Aside0.mk (below_step (bB HB) hb); (try clear hb); (try clear hb2); (try clear hk); (try clear hi); (try clear ho0)) | ((with_reducible refine gate_dst (N := 6) rfl ?_); (try (refine gate_guard (by rfl) ?_; dsimp only)); refine box_event ?hg (N := 6) ?hd (cs := #[.slice none 0 0]) (t := 34) ?hr ?_; (case hd => rfl); (case hg => rfl); (case hr => first | (go_simp; done) | (go_simp; rfl)); intro gb326 hg w141 hbox hb; replace HO321 := Aside0.mk (Kd.R_below (aR HO321) hb); replace HO324 := Aside0.mk (Kd.R_below (aR HO324) hb); have BK326 := Aside0.mk (hbox); have GW326 := Aside0.mk ((by rw [hg]; exact (below_size (bB HB)) : w.heap.size ≤ gb326)); have GE326 := Aside0.mk ((by rw [hg]; exact (below_size (bB HB)) : w.heap.size ≤ gb326)); replace HB := Aside0.mk (below_step (bB HB) hb); clear hb hbox hg; obtain ⟨Ao142, co142, eo142⟩ := Kd.R_slice HO324.out; subst eo142; have hcz143_0 : w141.cell? ⟨gb326, 0, none⟩ = some (.slice none 0 0) := (blk_cell BK326.out 0).trans rfl; have hfz143_0 := blk_frozen BK326.out 0) | ((with_reducible refine gate_callee (f := 23) rfl ?_); refine goesL_ (some 43) rfl rfl Try.func23 (by kernel_rfl) rfl #[.slice Ao139 t319.length co139] rfl (by (try simp only [List.map_toArray, List.map_cons, List.map_nil]); first | done | rfl | (simp only [List.length_drop, List.length_take]; rfl)) ?_; (with_reducible refine (spec_FilterOf.calls k _ _ t319 t327 t330 _ ?side1 ?side2 A6.out).mono ?_); (case side1 => refine (Kd.R_reads' (e := 3) (base := w.heap.size) (ok := fun k_ => True) (n := t319.length) (c := co139) ?_).2.2; exact (by (with_reducible repeat (first | apply Kd.R_alloc | apply Kd.R_drewN | apply Kd.R_drew)); exact (Kd.R_mono (Kd.R_far (p := ⟨gb326, 0, none⟩) (Kd.R_types HO321.out BK326.out (by decide)) (fun _ hk => hk.2) (.slice Ao142 t322.length co142)) (fun _ h_ => h_.1)))); (case side2 => exact (Kd.R_reads' HO321.out).2.1); rintro e w144 ⟨v328, rfl, ho0, hb⟩; refine ⟨_, rfl, ?_⟩; replace HO321 := Aside0.mk (Kd.R_below (by (with_reducible repeat (first | apply Kd.R_alloc | apply Kd.R_drewN | apply Kd.R_drew)); exact (Kd.R_mono (Kd.R_far (p := ⟨gb326, 0, none⟩) (Kd.R_types HO321.out BK326.out (by decide)) (fun _ hk => hk.2) (.slice Ao142 t322.length co142)) (fun _ h_ => h_.1))) hb); have HO329 := Aside0.mk (Kd.R_lower (Kd.R_new' ho0 (Kd.R_lt (by (with_reducible repeat (first | apply Kd.R_alloc | apply Kd.R_drewN | apply Kd.R_drew)); exact (Kd.R_mono (Kd.R_far (p := ⟨gb326, 0, none⟩) (Kd.R_types HO324.out BK326.out (by decide)) (fun _ hk => hk.2) (.slice Ao142 t322.length co142)) (fun _ h_ => h_.1))))) (below_size (bB HB))); replace HO324 := Aside0.mk (Kd.R_elder' (by (with_reducible repeat (first | apply Kd.R_alloc | apply Kd.R_drewN | apply Kd.R_drew)); exact (Kd.R_mono (Kd.R_far (p := ⟨gb326, 0, none⟩) (Kd.R_types HO324.out BK326.out (by decide)) (fun _ hk => hk.2) (.slice Ao142 t322.length co142)) (fun _ h_ => h_.1))) (Kd.R_base ho0) hb); replace BK326 := Aside0.mk (blk_below (g := gb326) (o := .cells #[.slice Ao142 t322.length co142] 34 (0, 0)) (by (with_reducible repeat (first | refine blk_drewN ?_ _ | refine blk_drew ?_ | refine blk_alloc ?_ _)); refine blk_put (cs := #[.slice none 0 0]) ?_ 0 _ rfl; (with_reducible repeat (first | refine blk_drewN ?_ _ | refine blk_drew ?_ | refine blk_alloc ?_ _)); exact BK326.out) hb); replace HB := Aside0.mk (below_step (bB HB) hb); (try clear hb); (try clear hb2); (try clear hk); (try clear hi); (try clear ho0)) | ((with_reducible refine gate_dst (N := 8) rfl ?_); (try (refine gate_guard (by rfl) ?_; dsimp only)); refine box_event ?hg (N := 8) ?hd (cs := #[.slice none 0 0]) (t := 34) ?hr ?_; (case hd => rfl); (case hg => rfl); (case hr => first | (go_simp; done) | (go_simp; rfl)); intro gb331 hg w145 hbox hb; replace HO321 := Aside0.mk (Kd.R_below (aR HO321) hb); replace HO324 := Aside0.mk (Kd.R_below (aR HO324) hb); replace HO329 := Aside0.mk (Kd.R_below (aR HO329) hb); have BK331 := Aside0.mk (hbox); have GW331 := Aside0.mk ((by rw [hg]; exact (below_size (bB HB)) : w.heap.size ≤ gb331)); have GE331 := Aside0.mk ((by rw [hg]; exact (below_size (bB HB)) : w.heap.size ≤ gb331)); replace HB := Aside0.mk (below_step (bB HB) hb); have NB326_331 := Aside0.mk ((by rw [hg]; exact Nat.ne_of_lt (blk_lt (g := gb326) (o := .cells #[.slice Ao142 t322.length co142] 34 (0, 0)) (kB BK326)) : gb326 ≠ gb331)); have NB331_326 := Aside0.mk ((by rw [hg]; exact Nat.ne_of_gt (blk_lt (g := gb326) (o := .cells #[.slice Ao142 t322.length co142] 34 (0, 0)) (kB BK326)) : gb331 ≠ gb326)); replace BK326 := Aside0.mk (blk_below (g := gb326) (o := .cells #[.slice Ao142 t322.length co142] 34 (0, 0)) (kB BK326) hb); clear hb hbox hg; obtain ⟨Ao146, co146, eo146⟩ := Kd.R_slice HO329.out; subst eo146; have hnb147 := NB331_326.out; have hnc147 := NB326_331.out; have hcz148_0 : w145.cell? ⟨gb331, 0, none⟩ = some (.slice none 0 0) := (blk_cell BK331.out 0).trans rfl; have hfz148_0 := blk_frozen BK331.out 0; have hcz149_0 : w145.cell? ⟨gb326, 0, none⟩ = some (.slice Ao142 t322.length co142) := (blk_cell BK326.out 0).trans rfl; have hfz149_0 := blk_frozen BK326.out 0) | (go_at_call 27; (with_reducible refine (laws_sameBools.calls k _ _ t322 _ _ t327 true _ ?side1 ?side2 ?side3 ?side4 A8.out).mono ?_); (case side1 => refine (Kd.R_reads' (e := 4) (base := w.heap.size) (ok := fun k_ => (True ∧ some k_ ≠ (.slice Ao146 t327.length co146 : Value).ownBlock)) (n := t322.length) (c := co142) ?_).2.2; exact (by (with_reducible repeat (first | apply Kd.R_alloc | apply Kd.R_drewN | apply Kd.R_drew)); exact (Kd.R_mono (Kd.R_far (p := ⟨gb331, 0, none⟩) (Kd.R_types HO324.out BK331.out (by decide)) (fun _ hk => hk.2) (.slice Ao146 t327.length co146)) (fun _ h_ => h_.1)))); (case side2 => exact (Kd.R_reads' HO324.out).2.1); (case side3 => refine (Kd.R_reads' (e := 4) (base := w.heap.size) (ok := fun k_ => (True ∧ some k_ ≠ (.slice Ao142 t322.length co142 : Value).ownBlock)) (n := t327.length) (c := co146) ?_).2.2; exact (by (with_reducible repeat (first | apply Kd.R_alloc | apply Kd.R_drewN | apply Kd.R_drew)); exact (Kd.R_mono (Kd.R_far (p := ⟨gb331, 0, none⟩) (Kd.R_types HO329.out BK331.out (by decide)) (fun _ hk => hk.2) (.slice Ao146 t327.length co146)) (fun _ h_ => h_.1)))); (case side4 => exact (Kd.R_reads' HO329.out).2.1); rintro e w' ⟨rfl, ⟨nd, rfl⟩⟩) | ((with_reducible refine gate_callee (f := 30) rfl ?_); refine goesL_ (some 98) rfl rfl Try.func30 (by kernel_rfl) rfl #[.slice A1 l1.length c1] rfl (by (try simp only [List.map_toArray, List.map_cons, List.map_nil]); first | done | rfl | (simp only [List.length_drop, List.length_take]; rfl)) ?_; (with_reducible refine (spec_DrawPutFilter.calls k _ _ l1 t364 t367 _ ?side1 ?side2 A120.out).mono ?_); (case side1 => exact Kd.C_below HR1.out (bB HB)); (case side2 => exact HC1.out); rintro e w150 ⟨v365, rfl, ho0, hb⟩; refine ⟨_, rfl, ?_⟩; replace HO321 := Aside0.mk (Kd.R_below (by (with_reducible repeat (first | apply Kd.R_alloc | apply Kd.R_drewN | apply Kd.R_drew)); exact (Kd.R_mono (Kd.R_far (p := ⟨gb331, 0, none⟩) (Kd.R_types HO321.out BK331.out (by decide)) (fun _ hk => hk.2) (.slice Ao146 t327.length co146)) (fun _ h_ => h_.1))) hb); have HO366 := Aside0.mk (Kd.R_lower (Kd.R_new' (Kd.R_new' ho0 (Kd.R_lt (by (with_reducible repeat (first | apply Kd.R_alloc | apply Kd.R_drewN | apply Kd.R_drew)); exact (Kd.R_mono (Kd.R_far (p := ⟨gb331, 0, none⟩) (Kd.R_types HO324.out BK331.out (by decide)) (fun _ hk => hk.2) (.slice Ao146 t327.length co146)) (fun _ h_ => h_.1))))) (Kd.R_lt (by (with_reducible repeat (first | apply Kd.R_alloc | apply Kd.R_drewN | apply Kd.R_drew)); exact (Kd.R_mono (Kd.R_far (p := ⟨gb331, 0, none⟩) (Kd.R_types HO329.out BK331.out (by decide)) (fun _ hk => hk.2) (.slice Ao146 t327.length co146)) (fun _ h_ => h_.1))))) (below_size (bB HB))); replace HO324 := Aside0.mk (Kd.R_elder' (by (with_reducible repeat (first | apply Kd.R_alloc | apply Kd.R_drewN | apply Kd.R_drew)); exact (Kd.R_mono (Kd.R_far (p := ⟨gb331, 0, none⟩) (Kd.R_types HO324.out BK331.out (by decide)) (fun _ hk => hk.2) (.slice Ao146 t327.length co146)) (fun _ h_ => h_.1))) (Kd.R_base ho0) hb); replace HO329 := Aside0.mk (Kd.R_elder' (by (with_reducible repeat (first | apply Kd.R_alloc | apply Kd.R_drewN | apply Kd.R_drew)); exact (Kd.R_mono (Kd.R_far (p := ⟨gb331, 0, none⟩) (Kd.R_types HO329.out BK331.out (by decide)) (fun _ hk => hk.2) (.slice Ao146 t327.length co146)) (fun _ h_ => h_.1))) (Kd.R_base ho0) hb); replace BK326 := Aside0.mk (blk_below (g := gb326) (o := .cells #[.slice Ao142 t322.length co142] 34 (0, 0)) (by (with_reducible repeat (first | refine blk_drewN ?_ _ | refine blk_drew ?_ | refine blk_alloc ?_ _)); refine blk_far ?_ NB326_331.out _; (with_reducible repeat (first | refine blk_drewN ?_ _ | refine blk_drew ?_ | refine blk_alloc ?_ _)); exact BK326.out) hb); replace BK331 := Aside0.mk (blk_below (g := gb331) (o := .cells #[.slice Ao146 t327.length co146] 34 (0, 0)) (by (with_reducible repeat (first | refine blk_drewN ?_ _ | refine blk_drew ?_ | refine blk_alloc ?_ _)); refine blk_put (cs := #[.slice none 0 0]) ?_ 0 _ rfl; (with_reducible repeat (first | refine blk_drewN ?_ _ | refine blk_drew ?_ | refine blk_alloc ?_ _)); exact BK331.out) hb); replace HB := Aside0.mk (below_step (bB HB) hb); (try clear hb); (try clear hb2); (try clear hk); (try clear hi); (try clear ho0)) | ((with_reducible refine gate_dst (N := 16) rfl ?_); (try (refine gate_guard (by rfl) ?_; dsimp only)); refine box_event ?hg (N := 16) ?hd (cs := #[.slice none 0 0]) (t := 34) ?hr ?_; (case hd => rfl); (case hg => rfl); (case hr => first | (go_simp; done) | (go_simp; rfl)); intro gb368 hg w151 hbox hb; replace HO321 := Aside0.mk (Kd.R_below (aR HO321) hb); replace HO324 := Aside0.mk (Kd.R_below (aR HO324) hb); replace HO329 := Aside0.mk (Kd.R_below (aR HO329) hb); replace HO366 := Aside0.mk (Kd.R_below (aR HO366) hb); have BK368 := Aside0.mk (hbox); have GW368 := Aside0.mk ((by rw [hg]; exact (below_size (bB HB)) : w.heap.size ≤ gb368)); have GE368 := Aside0.mk ((by rw [hg]; exact (below_size (bB HB)) : w.heap.size ≤ gb368)); replace HB := Aside0.mk (below_step (bB HB) hb); have NB326_368 := Aside0.mk ((by rw [hg]; exact Nat.ne_of_lt (blk_lt (g := gb326) (o := .cells #[.slice Ao142 t322.length co142] 34 (0, 0)) (kB BK326)) : gb326 ≠ gb368)); have NB368_326 := Aside0.mk ((by rw [hg]; exact Nat.ne_of_gt (blk_lt (g := gb326) (o := .cells #[.slice Ao142 t322.length co142] 34 (0, 0)) (kB BK326)) : gb368 ≠ gb326)); replace BK326 := Aside0.mk (blk_below (g := gb326) (o := .cells #[.slice Ao142 t322.length co142] 34 (0, 0)) (kB BK326) hb); have NB331_368 := Aside0.mk ((by rw [hg]; exact Nat.ne_of_lt (blk_lt (g := gb331) (o := .cells #[.slice Ao146 t327.length co146] 34 (0, 0)) (kB BK331)) : gb331 ≠ gb368)); have NB368_331 := Aside0.mk ((by rw [hg]; exact Nat.ne_of_gt (blk_lt (g := gb331) (o := .cells #[.slice Ao146 t327.length co146] 34 (0, 0)) (kB BK331)) : gb368 ≠ gb331)); replace BK331 := Aside0.mk (blk_below (g := gb331) (o := .cells #[.slice Ao146 t327.length co146] 34 (0, 0)) (kB BK331) hb); clear hb hbox hg; obtain ⟨Ao152, co152, eo152⟩ := Kd.R_slice HO366.out; subst eo152; have hnb153 := NB368_326.out; have hnc153 := NB326_368.out; have hnb154 := NB368_331.out; have hnc154 := NB331_368.out; have hcz155_0 : w151.cell? ⟨gb368, 0, none⟩ = some (.slice none 0 0) := (blk_cell BK368.out 0).trans rfl; have hfz155_0 := blk_frozen BK368.out 0) | ((with_reducible refine gate_callee (f := 20) rfl ?_); refine goesL_ (some 104) rfl rfl Try.func20 (by kernel_rfl) rfl #[.agg #[.slice Ao152 t364.length co152], .int .i64 t367] rfl (by (try simp only [List.map_toArray, List.map_cons, List.map_nil]); first | done | rfl | (simp only [List.length_drop, List.length_take]; rfl)) ?_; (with_reducible refine (impl_PutFilter.calls k _ _ t364 t367 t369 true _ ?side1 ?side2 A121.out).mono ?_); (case side1 => refine (Kd.R_reads' (e := 4) (base := w.heap.size) (ok := fun k_ => ((True ∧ some k_ ≠ (.slice Ao142 t322.length co142 : Value).ownBlock) ∧ some k_ ≠ (.slice Ao146 t327.length co146 : Value).ownBlock)) (n := t364.length) (c := co152) ?_).2.2; exact (by (with_reducible repeat (first | apply Kd.R_alloc | apply Kd.R_drewN | apply Kd.R_drew)); exact (Kd.R_mono (Kd.R_far (p := ⟨gb368, 0, none⟩) (Kd.R_types HO366.out BK368.out (by decide)) (fun _ hk => hk.2) (.slice Ao152 t364.length co152)) (fun _ h_ => h_.1)))); (case side2 => exact (Kd.R_reads' HO366.out).2.1); rintro e w156 ⟨v370, rfl, ho0, hb⟩; refine ⟨_, rfl, ?_⟩; replace HO321 := Aside0.mk (Kd.R_below (by (with_reducible repeat (first | apply Kd.R_alloc | apply Kd.R_drewN | apply Kd.R_drew)); exact (Kd.R_mono (Kd.R_far (p := ⟨gb368, 0, none⟩) (Kd.R_types HO321.out BK368.out (by decide)) (fun _ hk => hk.2) (.slice Ao152 t364.length co152)) (fun _ h_ => h_.1))) hb); have HO371 := Aside0.mk (Kd.R_lower (Kd.R_new' (Kd.R_new' (Kd.R_new' ho0 (Kd.R_lt (by (with_reducible repeat (first | apply Kd.R_alloc | apply Kd.R_drewN | apply Kd.R_drew)); exact (Kd.R_mono (Kd.R_far (p := ⟨gb368, 0, none⟩) (Kd.R_types HO324.out BK368.out (by decide)) (fun _ hk => hk.2) (.slice Ao152 t364.length co152)) (fun _ h_ => h_.1))))) (Kd.R_lt (by (with_reducible repeat (first | apply Kd.R_alloc | apply Kd.R_drewN | apply Kd.R_drew)); exact (Kd.R_mono (Kd.R_far (p := ⟨gb368, 0, none⟩) (Kd.R_types HO329.out BK368.out (by decide)) (fun _ hk => hk.2) (.slice Ao152 t364.length co152)) (fun _ h_ => h_.1))))) (Kd.R_lt (by (with_reducible repeat (first | apply Kd.R_alloc | apply Kd.R_drewN | apply Kd.R_drew)); exact (Kd.R_mono (Kd.R_far (p := ⟨gb368, 0, none⟩) (Kd.R_types HO366.out BK368.out (by decide)) (fun _ hk => hk.2) (.slice Ao152 t364.length co152)) (fun _ h_ => h_.1))))) (below_size (bB HB))); replace HO324 := Aside0.mk (Kd.R_elder' (by (with_reducible repeat (first | apply Kd.R_alloc | apply Kd.R_drewN | apply Kd.R_drew)); exact (Kd.R_mono (Kd.R_far (p := ⟨gb368, 0, none⟩) (Kd.R_types HO324.out BK368.out (by decide)) (fun _ hk => hk.2) (.slice Ao152 t364.length co152)) (fun _ h_ => h_.1))) (Kd.R_base ho0) hb); replace HO329 := Aside0.mk (Kd.R_elder' (by (with_reducible repeat (first | apply Kd.R_alloc | apply Kd.R_drewN | apply Kd.R_drew)); exact (Kd.R_mono (Kd.R_far (p := ⟨gb368, 0, none⟩) (Kd.R_types HO329.out BK368.out (by decide)) (fun _ hk => hk.2) (.slice Ao152 t364.length co152)) (fun _ h_ => h_.1))) (Kd.R_base ho0) hb); replace HO366 := Aside0.mk (Kd.R_elder' (by (with_reducible repeat (first | apply Kd.R_alloc | apply Kd.R_drewN | apply Kd.R_drew)); exact (Kd.R_mono (Kd.R_far (p := ⟨gb368, 0, none⟩) (Kd.R_types HO366.out BK368.out (by decide)) (fun _ hk => hk.2) (.slice Ao152 t364.length co152)) (fun _ h_ => h_.1))) (Kd.R_base ho0) hb); replace BK326 := Aside0.mk (blk_below (g := gb326) (o := .cells #[.slice Ao142 t322.length co142] 34 (0, 0)) (by (with_reducible repeat (first | refine blk_drewN ?_ _ | refine blk_drew ?_ | refine blk_alloc ?_ _)); refine blk_far ?_ NB326_368.out _; (with_reducible repeat (first | refine blk_drewN ?_ _ | refine blk_drew ?_ | refine blk_alloc ?_ _)); exact BK326.out) hb); replace BK331 := Aside0.mk (blk_below (g := gb331) (o := .cells #[.slice Ao146 t327.length co146] 34 (0, 0)) (by (with_reducible repeat (first | refine blk_drewN ?_ _ | refine blk_drew ?_ | refine blk_alloc ?_ _)); refine blk_far ?_ NB331_368.out _; (with_reducible repeat (first | refine blk_drewN ?_ _ | refine blk_drew ?_ | refine blk_alloc ?_ _)); exact BK331.out) hb); replace BK368 := Aside0.mk (blk_below (g := gb368) (o := .cells #[.slice Ao152 t364.length co152] 34 (0, 0)) (by (with_reducible repeat (first | refine blk_drewN ?_ _ | refine blk_drew ?_ | refine blk_alloc ?_ _)); refine blk_put (cs := #[.slice none 0 0]) ?_ 0 _ rfl; (with_reducible repeat (first | refine blk_drewN ?_ _ | refine blk_drew ?_ | refine blk_alloc ?_ _)); exact BK368.out) hb); replace HB := Aside0.mk (below_step (bB HB) hb); (try clear hb); (try clear hb2); (try clear hk); (try clear hi); (try clear ho0)) | ((with_reducible refine gate_dst (N := 18) rfl ?_); (try (refine gate_guard (by rfl) ?_; dsimp only)); refine box_event ?hg (N := 18) ?hd (cs := #[.slice none 0 0]) (t := 34) ?hr ?_; (case hd => rfl); (case hg => rfl); (case hr => first | (go_simp; done) | (go_simp; rfl)); intro gb373 hg w157 hbox hb; replace HO321 := Aside0.mk (Kd.R_below (aR HO321) hb); replace HO324 := Aside0.mk (Kd.R_below (aR HO324) hb); replace HO329 := Aside0.mk (Kd.R_below (aR HO329) hb); replace HO366 := Aside0.mk (Kd.R_below (aR HO366) hb); replace HO371 := Aside0.mk (Kd.R_below (aR HO371) hb); have BK373 := Aside0.mk (hbox); have GW373 := Aside0.mk ((by rw [hg]; exact (below_size (bB HB)) : w.heap.size ≤ gb373)); have GE373 := Aside0.mk ((by rw [hg]; exact (below_size (bB HB)) : w.heap.size ≤ gb373)); replace HB := Aside0.mk (below_step (bB HB) hb); have NB326_373 := Aside0.mk ((by rw [hg]; exact Nat.ne_of_lt (blk_lt (g := gb326) (o := .cells #[.slice Ao142 t322.length co142] 34 (0, 0)) (kB BK326)) : gb326 ≠ gb373)); have NB373_326 := Aside0.mk ((by rw [hg]; exact Nat.ne_of_gt (blk_lt (g := gb326) (o := .cells #[.slice Ao142 t322.length co142] 34 (0, 0)) (kB BK326)) : gb373 ≠ gb326)); replace BK326 := Aside0.mk (blk_below (g := gb326) (o := .cells #[.slice Ao142 t322.length co142] 34 (0, 0)) (kB BK326) hb); have NB331_373 := Aside0.mk ((by rw [hg]; exact Nat.ne_of_lt (blk_lt (g := gb331) (o := .cells #[.slice Ao146 t327.length co146] 34 (0, 0)) (kB BK331)) : gb331 ≠ gb373)); have NB373_331 := Aside0.mk ((by rw [hg]; exact Nat.ne_of_gt (blk_lt (g := gb331) (o := .cells #[.slice Ao146 t327.length co146] 34 (0, 0)) (kB BK331)) : gb373 ≠ gb331)); replace BK331 := Aside0.mk (blk_below (g := gb331) (o := .cells #[.slice Ao146 t327.length co146] 34 (0, 0)) (kB BK331) hb); have NB368_373 := Aside0.mk ((by rw [hg]; exact Nat.ne_of_lt (blk_lt (g := gb368) (o := .cells #[.slice Ao152 t364.length co152] 34 (0, 0)) (kB BK368)) : gb368 ≠ gb373)); have NB373_368 := Aside0.mk ((by rw [hg]; exact Nat.ne_of_gt (blk_lt (g := gb368) (o := .cells #[.slice Ao152 t364.length co152] 34 (0, 0)) (kB BK368)) : gb373 ≠ gb368)); replace BK368 := Aside0.mk (blk_below (g := gb368) (o := .cells #[.slice Ao152 t364.length co152] 34 (0, 0)) (kB BK368) hb); clear hb hbox hg; obtain ⟨Ao158, co158, eo158⟩ := Kd.R_slice HO371.out; subst eo158; have hnb159 := NB373_326.out; have hnc159 := NB326_373.out; have hnb160 := NB373_331.out; have hnc160 := NB331_373.out; have hnb161 := NB373_368.out; have hnc161 := NB368_373.out; have hcz162_0 : w157.cell? ⟨gb373, 0, none⟩ = some (.slice none 0 0) := (blk_cell BK373.out 0).trans rfl; have hfz162_0 := blk_frozen BK373.out 0; have hcz163_0 : w157.cell? ⟨gb368, 0, none⟩ = some (.slice Ao152 t364.length co152) := (blk_cell BK368.out 0).trans rfl; have hfz163_0 := blk_frozen BK368.out 0) | ((with_reducible refine gate_callee (f := 19) rfl ?_); refine goesL_ (some 110) rfl rfl Try.func19 (by kernel_rfl) rfl #[.agg #[.slice Ao152 t364.length co152], .int .i64 t367] rfl (by (try simp only [List.map_toArray, List.map_cons, List.map_nil]); first | done | rfl | (simp only [List.length_drop, List.length_take]; rfl)) ?_; (with_reducible refine (spec_PutFilter.calls k _ _ t364 t367 t374 t377 _ ?side1 ?side2 A122.out).mono ?_); (case side1 => refine (Kd.R_reads' (e := 4) (base := w.heap.size) (ok := fun k_ => (((True ∧ some k_ ≠ (.slice Ao142 t322.length co142 : Value).ownBlock) ∧ some k_ ≠ (.slice Ao146 t327.length co146 : Value).ownBlock) ∧ some k_ ≠ (.slice Ao158 t369.length co158 : Value).ownBlock)) (n := t364.length) (c := co152) ?_).2.2; exact (by (with_reducible repeat (first | apply Kd.R_alloc | apply Kd.R_drewN | apply Kd.R_drew)); exact (Kd.R_mono (Kd.R_far (p := ⟨gb373, 0, none⟩) (Kd.R_types HO366.out BK373.out (by decide)) (fun _ hk => hk.2) (.slice Ao158 t369.length co158)) (fun _ h_ => h_.1)))); (case side2 => exact (Kd.R_reads' HO366.out).2.1); rintro e w164 ⟨v375, rfl, ho0, hb⟩; refine ⟨_, rfl, ?_⟩; replace HO321 := Aside0.mk (Kd.R_below (by (with_reducible repeat (first | apply Kd.R_alloc | apply Kd.R_drewN | apply Kd.R_drew)); exact (Kd.R_mono (Kd.R_far (p := ⟨gb373, 0, none⟩) (Kd.R_types HO321.out BK373.out (by decide)) (fun _ hk => hk.2) (.slice Ao158 t369.length co158)) (fun _ h_ => h_.1))) hb); have HO376 := Aside0.mk (Kd.R_lower (Kd.R_new' (Kd.R_new' (Kd.R_new' (Kd.R_new' ho0 (Kd.R_lt (by (with_reducible repeat (first | apply Kd.R_alloc | apply Kd.R_drewN | apply Kd.R_drew)); exact (Kd.R_mono (Kd.R_far (p := ⟨gb373, 0, none⟩) (Kd.R_types HO324.out BK373.out (by decide)) (fun _ hk => hk.2) (.slice Ao158 t369.length co158)) (fun _ h_ => h_.1))))) (Kd.R_lt (by (with_reducible repeat (first | apply Kd.R_alloc | apply Kd.R_drewN | apply Kd.R_drew)); exact (Kd.R_mono (Kd.R_far (p := ⟨gb373, 0, none⟩) (Kd.R_types HO329.out BK373.out (by decide)) (fun _ hk => hk.2) (.slice Ao158 t369.length co158)) (fun _ h_ => h_.1))))) (Kd.R_lt (by (with_reducible repeat (first | apply Kd.R_alloc | apply Kd.R_drewN | apply Kd.R_drew)); exact (Kd.R_mono (Kd.R_far (p := ⟨gb373, 0, none⟩) (Kd.R_types HO366.out BK373.out (by decide)) (fun _ hk => hk.2) (.slice Ao158 t369.length co158)) (fun _ h_ => h_.1))))) (Kd.R_lt (by (with_reducible repeat (first | apply Kd.R_alloc | apply Kd.R_drewN | apply Kd.R_drew)); exact (Kd.R_mono (Kd.R_far (p := ⟨gb373, 0, none⟩) (Kd.R_types HO371.out BK373.out (by decide)) (fun _ hk => hk.2) (.slice Ao158 t369.length co158)) (fun _ h_ => h_.1))))) (below_size (bB HB))); replace HO324 := Aside0.mk (Kd.R_elder' (by (with_reducible repeat (first | apply Kd.R_alloc | apply Kd.R_drewN | apply Kd.R_drew)); exact (Kd.R_mono (Kd.R_far (p := ⟨gb373, 0, none⟩) (Kd.R_types HO324.out BK373.out (by decide)) (fun _ hk => hk.2) (.slice Ao158 t369.length co158)) (fun _ h_ => h_.1))) (Kd.R_base ho0) hb); replace HO329 := Aside0.mk (Kd.R_elder' (by (with_reducible repeat (first | apply Kd.R_alloc | apply Kd.R_drewN | apply Kd.R_drew)); exact (Kd.R_mono (Kd.R_far (p := ⟨gb373, 0, none⟩) (Kd.R_types HO329.out BK373.out (by decide)) (fun _ hk => hk.2) (.slice Ao158 t369.length co158)) (fun _ h_ => h_.1))) (Kd.R_base ho0) hb); replace HO366 := Aside0.mk (Kd.R_elder' (by (with_reducible repeat (first | apply Kd.R_alloc | apply Kd.R_drewN | apply Kd.R_drew)); exact (Kd.R_mono (Kd.R_far (p := ⟨gb373, 0, none⟩) (Kd.R_types HO366.out BK373.out (by decide)) (fun _ hk => hk.2) (.slice Ao158 t369.length co158)) (fun _ h_ => h_.1))) (Kd.R_base ho0) hb); replace HO371 := Aside0.mk (Kd.R_elder' (by (with_reducible repeat (first | apply Kd.R_alloc | apply Kd.R_drewN | apply Kd.R_drew)); exact (Kd.R_mono (Kd.R_far (p := ⟨gb373, 0, none⟩) (Kd.R_types HO371.out BK373.out (by decide)) (fun _ hk => hk.2) (.slice Ao158 t369.length co158)) (fun _ h_ => h_.1))) (Kd.R_base ho0) hb); replace BK326 := Aside0.mk (blk_below (g := gb326) (o := .cells #[.slice Ao142 t322.length co142] 34 (0, 0)) (by (with_reducible repeat (first | refine blk_drewN ?_ _ | refine blk_drew ?_ | refine blk_alloc ?_ _)); refine blk_far ?_ NB326_373.out _; (with_reducible repeat (first | refine blk_drewN ?_ _ | refine blk_drew ?_ | refine blk_alloc ?_ _)); exact BK326.out) hb); replace BK331 := Aside0.mk (blk_below (g := gb331) (o := .cells #[.slice Ao146 t327.length co146] 34 (0, 0)) (by (with_reducible repeat (first | refine blk_drewN ?_ _ | refine blk_drew ?_ | refine blk_alloc ?_ _)); refine blk_far ?_ NB331_373.out _; (with_reducible repeat (first | refine blk_drewN ?_ _ | refine blk_drew ?_ | refine blk_alloc ?_ _)); exact BK331.out) hb); replace BK368 := Aside0.mk (blk_below (g := gb368) (o := .cells #[.slice Ao152 t364.length co152] 34 (0, 0)) (by (with_reducible repeat (first | refine blk_drewN ?_ _ | refine blk_drew ?_ | refine blk_alloc ?_ _)); refine blk_far ?_ NB368_373.out _; (with_reducible repeat (first | refine blk_drewN ?_ _ | refine blk_drew ?_ | refine blk_alloc ?_ _)); exact BK368.out) hb); replace BK373 := Aside0.mk (blk_below (g := gb373) (o := .cells #[.slice Ao158 t369.length co158] 34 (0, 0)) (by (with_reducible repeat (first | refine blk_drewN ?_ _ | refine blk_drew ?_ | refine blk_alloc ?_ _)); refine blk_put (cs := #[.slice none 0 0]) ?_ 0 _ rfl; (with_reducible repeat (first | refine blk_drewN ?_ _ | refine blk_drew ?_ | refine blk_alloc ?_ _)); exact BK373.out) hb); replace HB := Aside0.mk (below_step (bB HB) hb); (try clear hb); (try clear hb2); (try clear hk); (try clear hi); (try clear ho0)) | ((with_reducible refine gate_dst (N := 20) rfl ?_); (try (refine gate_guard (by rfl) ?_; dsimp only)); refine box_event ?hg (N := 20) ?hd (cs := #[.slice none 0 0]) (t := 34) ?hr ?_; (case hd => rfl); (case hg => rfl); (case hr => first | (go_simp; done) | (go_simp; rfl)); intro gb378 hg w165 hbox hb; replace HO321 := Aside0.mk (Kd.R_below (aR HO321) hb); replace HO324 := Aside0.mk (Kd.R_below (aR HO324) hb); replace HO329 := Aside0.mk (Kd.R_below (aR HO329) hb); replace HO366 := Aside0.mk (Kd.R_below (aR HO366) hb); replace HO371 := Aside0.mk (Kd.R_below (aR HO371) hb); replace HO376 := Aside0.mk (Kd.R_below (aR HO376) hb); have BK378 := Aside0.mk (hbox); have GW378 := Aside0.mk ((by rw [hg]; exact (below_size (bB HB)) : w.heap.size ≤ gb378)); have GE378 := Aside0.mk ((by rw [hg]; exact (below_size (bB HB)) : w.heap.size ≤ gb378)); replace HB := Aside0.mk (below_step (bB HB) hb); have NB326_378 := Aside0.mk ((by rw [hg]; exact Nat.ne_of_lt (blk_lt (g := gb326) (o := .cells #[.slice Ao142 t322.length co142] 34 (0, 0)) (kB BK326)) : gb326 ≠ gb378)); have NB378_326 := Aside0.mk ((by rw [hg]; exact Nat.ne_of_gt (blk_lt (g := gb326) (o := .cells #[.slice Ao142 t322.length co142] 34 (0, 0)) (kB BK326)) : gb378 ≠ gb326)); replace BK326 := Aside0.mk (blk_below (g := gb326) (o := .cells #[.slice Ao142 t322.length co142] 34 (0, 0)) (kB BK326) hb); have NB331_378 := Aside0.mk ((by rw [hg]; exact Nat.ne_of_lt (blk_lt (g := gb331) (o := .cells #[.slice Ao146 t327.length co146] 34 (0, 0)) (kB BK331)) : gb331 ≠ gb378)); have NB378_331 := Aside0.mk ((by rw [hg]; exact Nat.ne_of_gt (blk_lt (g := gb331) (o := .cells #[.slice Ao146 t327.length co146] 34 (0, 0)) (kB BK331)) : gb378 ≠ gb331)); replace BK331 := Aside0.mk (blk_below (g := gb331) (o := .cells #[.slice Ao146 t327.length co146] 34 (0, 0)) (kB BK331) hb); have NB368_378 := Aside0.mk ((by rw [hg]; exact Nat.ne_of_lt (blk_lt (g := gb368) (o := .cells #[.slice Ao152 t364.length co152] 34 (0, 0)) (kB BK368)) : gb368 ≠ gb378)); have NB378_368 := Aside0.mk ((by rw [hg]; exact Nat.ne_of_gt (blk_lt (g := gb368) (o := .cells #[.slice Ao152 t364.length co152] 34 (0, 0)) (kB BK368)) : gb378 ≠ gb368)); replace BK368 := Aside0.mk (blk_below (g := gb368) (o := .cells #[.slice Ao152 t364.length co152] 34 (0, 0)) (kB BK368) hb); have NB373_378 := Aside0.mk ((by rw [hg]; exact Nat.ne_of_lt (blk_lt (g := gb373) (o := .cells #[.slice Ao158 t369.length co158] 34 (0, 0)) (kB BK373)) : gb373 ≠ gb378)); have NB378_373 := Aside0.mk ((by rw [hg]; exact Nat.ne_of_gt (blk_lt (g := gb373) (o := .cells #[.slice Ao158 t369.length co158] 34 (0, 0)) (kB BK373)) : gb378 ≠ gb373)); replace BK373 := Aside0.mk (blk_below (g := gb373) (o := .cells #[.slice Ao158 t369.length co158] 34 (0, 0)) (kB BK373) hb); clear hb hbox hg; obtain ⟨Ao166, co166, eo166⟩ := Kd.R_slice HO376.out; subst eo166; have hnb167 := NB378_326.out; have hnc167 := NB326_378.out; have hnb168 := NB378_331.out; have hnc168 := NB331_378.out; have hnb169 := NB378_368.out; have hnc169 := NB368_378.out; have hnb170 := NB378_373.out; have hnc170 := NB373_378.out; have hcz171_0 : w165.cell? ⟨gb378, 0, none⟩ = some (.slice none 0 0) := (blk_cell BK378.out 0).trans rfl; have hfz171_0 := blk_frozen BK378.out 0; have hcz172_0 : w165.cell? ⟨gb368, 0, none⟩ = some (.slice Ao152 t364.length co152) := (blk_cell BK368.out 0).trans rfl; have hfz172_0 := blk_frozen BK368.out 0) | ((with_reducible refine gate_callee (f := 17) rfl ?_); refine goesL_ (some 116) rfl rfl Try.func17 (by kernel_rfl) rfl #[.agg #[.slice Ao152 t364.length co152], .int .i64 t367] rfl (by (try simp only [List.map_toArray, List.map_cons, List.map_nil]); first | done | rfl | (simp only [List.length_drop, List.length_take]; rfl)) ?_; (with_reducible refine (impl_MayHave.calls k _ _ t364 t367 t379 t380 _ ?side1 ?side2 A123.out).mono ?_); (case side1 => refine (Kd.R_reads' (e := 4) (base := w.heap.size) (ok := fun k_ => ((((True ∧ some k_ ≠ (.slice Ao142 t322.length co142 : Value).ownBlock) ∧ some k_ ≠ (.slice Ao146 t327.length co146 : Value).ownBlock) ∧ some k_ ≠ (.slice Ao158 t369.length co158 : Value).ownBlock) ∧ some k_ ≠ (.slice Ao166 t374.length co166 : Value).ownBlock)) (n := t364.length) (c := co152) ?_).2.2; exact (by (with_reducible repeat (first | apply Kd.R_alloc | apply Kd.R_drewN | apply Kd.R_drew)); exact (Kd.R_mono (Kd.R_far (p := ⟨gb378, 0, none⟩) (Kd.R_types HO366.out BK378.out (by decide)) (fun _ hk => hk.2) (.slice Ao166 t374.length co166)) (fun _ h_ => h_.1)))); (case side2 => exact (Kd.R_reads' HO366.out).2.1); rintro e w173 ⟨rfl, hb⟩; refine ⟨_, rfl, ?_⟩; replace HO321 := Aside0.mk (Kd.R_below (by (with_reducible repeat (first | apply Kd.R_alloc | apply Kd.R_drewN | apply Kd.R_drew)); exact (Kd.R_mono (Kd.R_far (p := ⟨gb378, 0, none⟩) (Kd.R_types HO321.out BK378.out (by decide)) (fun _ hk => hk.2) (.slice Ao166 t374.length co166)) (fun _ h_ => h_.1))) hb); replace HO324 := Aside0.mk (Kd.R_below (by (with_reducible repeat (first | apply Kd.R_alloc | apply Kd.R_drewN | apply Kd.R_drew)); exact (Kd.R_mono (Kd.R_far (p := ⟨gb378, 0, none⟩) (Kd.R_types HO324.out BK378.out (by decide)) (fun _ hk => hk.2) (.slice Ao166 t374.length co166)) (fun _ h_ => h_.1))) hb); replace HO329 := Aside0.mk (Kd.R_below (by (with_reducible repeat (first | apply Kd.R_alloc | apply Kd.R_drewN | apply Kd.R_drew)); exact (Kd.R_mono (Kd.R_far (p := ⟨gb378, 0, none⟩) (Kd.R_types HO329.out BK378.out (by decide)) (fun _ hk => hk.2) (.slice Ao166 t374.length co166)) (fun _ h_ => h_.1))) hb); replace HO366 := Aside0.mk (Kd.R_below (by (with_reducible repeat (first | apply Kd.R_alloc | apply Kd.R_drewN | apply Kd.R_drew)); exact (Kd.R_mono (Kd.R_far (p := ⟨gb378, 0, none⟩) (Kd.R_types HO366.out BK378.out (by decide)) (fun _ hk => hk.2) (.slice Ao166 t374.length co166)) (fun _ h_ => h_.1))) hb); replace HO371 := Aside0.mk (Kd.R_below (by (with_reducible repeat (first | apply Kd.R_alloc | apply Kd.R_drewN | apply Kd.R_drew)); exact (Kd.R_mono (Kd.R_far (p := ⟨gb378, 0, none⟩) (Kd.R_types HO371.out BK378.out (by decide)) (fun _ hk => hk.2) (.slice Ao166 t374.length co166)) (fun _ h_ => h_.1))) hb); replace HO376 := Aside0.mk (Kd.R_below (by (with_reducible repeat (first | apply Kd.R_alloc | apply Kd.R_drewN | apply Kd.R_drew)); exact (Kd.R_mono (Kd.R_far (p := ⟨gb378, 0, none⟩) (Kd.R_types HO376.out BK378.out (by decide)) (fun _ hk => hk.2) (.slice Ao166 t374.length co166)) (fun _ h_ => h_.1))) hb); replace BK326 := Aside0.mk (blk_below (g := gb326) (o := .cells #[.slice Ao142 t322.length co142] 34 (0, 0)) (by (with_reducible repeat (first | refine blk_drewN ?_ _ | refine blk_drew ?_ | refine blk_alloc ?_ _)); refine blk_far ?_ NB326_378.out _; (with_reducible repeat (first | refine blk_drewN ?_ _ | refine blk_drew ?_ | refine blk_alloc ?_ _)); exact BK326.out) hb); replace BK331 := Aside0.mk (blk_below (g := gb331) (o := .cells #[.slice Ao146 t327.length co146] 34 (0, 0)) (by (with_reducible repeat (first | refine blk_drewN ?_ _ | refine blk_drew ?_ | refine blk_alloc ?_ _)); refine blk_far ?_ NB331_378.out _; (with_reducible repeat (first | refine blk_drewN ?_ _ | refine blk_drew ?_ | refine blk_alloc ?_ _)); exact BK331.out) hb); replace BK368 := Aside0.mk (blk_below (g := gb368) (o := .cells #[.slice Ao152 t364.length co152] 34 (0, 0)) (by (with_reducible repeat (first | refine blk_drewN ?_ _ | refine blk_drew ?_ | refine blk_alloc ?_ _)); refine blk_far ?_ NB368_378.out _; (with_reducible repeat (first | refine blk_drewN ?_ _ | refine blk_drew ?_ | refine blk_alloc ?_ _)); exact BK368.out) hb); replace BK373 := Aside0.mk (blk_below (g := gb373) (o := .cells #[.slice Ao158 t369.length co158] 34 (0, 0)) (by (with_reducible repeat (first | refine blk_drewN ?_ _ | refine blk_drew ?_ | refine blk_alloc ?_ _)); refine blk_far ?_ NB373_378.out _; (with_reducible repeat (first | refine blk_drewN ?_ _ | refine blk_drew ?_ | refine blk_alloc ?_ _)); exact BK373.out) hb); replace BK378 := Aside0.mk (blk_below (g := gb378) (o := .cells #[.slice Ao166 t374.length co166] 34 (0, 0)) (by (with_reducible repeat (first | refine blk_drewN ?_ _ | refine blk_drew ?_ | refine blk_alloc ?_ _)); refine blk_put (cs := #[.slice none 0 0]) ?_ 0 _ rfl; (with_reducible repeat (first | refine blk_drewN ?_ _ | refine blk_drew ?_ | refine blk_alloc ?_ _)); exact BK378.out) hb); replace HB := Aside0.mk (below_step (bB HB) hb); (try clear hb); (try clear hb2); (try clear hk); (try clear hi); have hcz174_0 : w173.cell? ⟨gb368, 0, none⟩ = some (.slice Ao152 t364.length co152) := (blk_cell BK368.out 0).trans rfl; have hfz174_0 := blk_frozen BK368.out 0) | ((with_reducible refine gate_callee (f := 15) rfl ?_); refine goesL_ (some 122) rfl rfl Try.func15 (by kernel_rfl) rfl #[.agg #[.slice Ao152 t364.length co152], .int .i64 t367] rfl (by (try simp only [List.map_toArray, List.map_cons, List.map_nil]); first | done | rfl | (simp only [List.length_drop, List.length_take]; rfl)) ?_; (with_reducible refine (spec_MayHave.calls k _ _ t364 t367 t381 t382 _ ?side1 ?side2 A124.out).mono ?_); (case side1 => repeat (first | exact (Kd.R_reads' HO366.out).2.2 | (with_reducible refine Kd.C_alloc ?_ _) | (with_reducible refine Kd.C_drewN ?_ _) | (with_reducible refine Kd.C_drew ?_))); (case side2 => exact (Kd.R_reads' HO366.out).2.1); rintro e w175 ⟨rfl, hb⟩; refine ⟨_, rfl, ?_⟩; replace HO321 := Aside0.mk (Kd.R_below (aR HO321) hb); replace HO324 := Aside0.mk (Kd.R_below (aR HO324) hb); replace HO329 := Aside0.mk (Kd.R_below (aR HO329) hb); replace HO366 := Aside0.mk (Kd.R_below (aR HO366) hb); replace HO371 := Aside0.mk (Kd.R_below (aR HO371) hb); replace HO376 := Aside0.mk (Kd.R_below (aR HO376) hb); replace BK326 := Aside0.mk (blk_below (g := gb326) (o := .cells #[.slice Ao142 t322.length co142] 34 (0, 0)) (kB BK326) hb); replace BK331 := Aside0.mk (blk_below (g := gb331) (o := .cells #[.slice Ao146 t327.length co146] 34 (0, 0)) (kB BK331) hb); replace BK368 := Aside0.mk (blk_below (g := gb368) (o := .cells #[.slice Ao152 t364.length co152] 34 (0, 0)) (kB BK368) hb); replace BK373 := Aside0.mk (blk_below (g := gb373) (o := .cells #[.slice Ao158 t369.length co158] 34 (0, 0)) (kB BK373) hb); replace BK378 := Aside0.mk (blk_below (g := gb378) (o := .cells #[.slice Ao166 t374.length co166] 34 (0, 0)) (kB BK378) hb); replace HB := Aside0.mk (below_step (bB HB) hb); (try clear hb); (try clear hb2); (try clear hk); (try clear hi)))
             replace HO321 := Aside0.mk (Kd.R_drew HO321.out)
             replace HO324 := Aside0.mk (Kd.R_drew HO324.out)
             replace HO329 := Aside0.mk (Kd.R_drew HO329.out)
             replace HO366 := Aside0.mk (Kd.R_drew HO366.out)
             replace HO371 := Aside0.mk (Kd.R_drew HO371.out)
             replace HO376 := Aside0.mk (Kd.R_drew HO376.out)
             replace BK326 := Aside0.mk (blk_drew BK326.out)
             replace BK331 := Aside0.mk (blk_drew BK331.out)
             replace BK368 := Aside0.mk (blk_drew BK368.out)
             replace BK373 := Aside0.mk (blk_drew BK373.out)
             replace BK378 := Aside0.mk (blk_drew BK378.out)
             replace HB := Aside0.mk (below_drew1 HB.out)
             refine start_ (n := 28) (S := fun w' => w'.cell? ⟨gb373, 0, none⟩ = some (.slice Ao158 t369.length co158) ∧ w'.cell? ⟨gb378, 0, none⟩ = some (.slice Ao166 t374.length co166) ∧ w'.cell? ⟨gb368, 0, none⟩ = some (.slice Ao152 t364.length co152)) (ds := []) #[false, false, false, false, false, false, false, false, false, false, false, false, false, false, false, false, false, false, false, false, false, false, false, false, false, false, false, false] (by kernel_rfl) rfl rfl ⟨(blk_cell BK373.out 0).trans rfl, (blk_cell BK378.out 0).trans rfl, (blk_cell BK368.out 0).trans rfl⟩ (fun hHeld => ?_); refine with_tabW laws_FnFilter.tab24 laws_FnFilter.bits24 (fun HT_ HW_ => ?_)
             generalize w175.drew = w176 at HO321 HO324 HO329 HO366 HO371 HO376 BK326 BK331 BK368 BK373 BK378 HB hHeld ⊢
             refine pure_ (i := 0) (N := some 125) (v := ?_) (a' := ?_) #[true, false, false, false, false, false, false, false, false, false, false, false, false, false, false, false, false, false, false, false, false, false, false, false, false, false, false, false] rfl rfl (any_of HT_.out (by kernel_rfl)) (fun _ _ _ h => h) (Or.inl ⟨by rfl, ?_⟩) ?_ ?_
             rotate_left
             ·intro w'
              go_simp
              with_reducible rfl
             rotate_left
             ·simp only [Act.put, List.setIfInBounds_toArray, List.set_cons_zero, List.set_cons_succ, i64_w, i32_w]
              rfl
             refine pure_ (i := 1) (N := some 126) (v := ?_) (a' := ?_) #[true, true, false, false, false, false, false, false, false, false, false, false, false, false, false, false, false, false, false, false, false, false, false, false, false, false, false, false] rfl rfl (any_of HT_.out (by kernel_rfl)) (fun _ _ _ h => h) (Or.inl ⟨by rfl, ?_⟩) ?_ ?_
             rotate_left
             ·intro w'
              go_simp
              with_reducible rfl
             rotate_left
             ·simp only [Act.put, List.setIfInBounds_toArray, List.set_cons_zero, List.set_cons_succ, i64_w, i32_w]
              rfl
             refine pure_ (i := 2) (N := some 127) (v := ?_) (a' := ?_) #[true, true, true, false, false, false, false, false, false, false, false, false, false, false, false, false, false, false, false, false, false, false, false, false, false, false, false, false] rfl rfl (any_of HT_.out (by kernel_rfl)) (fun _ _ _ h => h) (Or.inl ⟨by rfl, ?_⟩) ?_ ?_
             rotate_left
             ·intro w'
              go_simp
              with_reducible rfl
             rotate_left
             ·simp only [Act.put, List.setIfInBounds_toArray, List.set_cons_zero, List.set_cons_succ, i64_w, i32_w]
              rfl
             refine pure_ (i := 3) (N := some 128) (v := ?_) (a' := ?_) #[true, true, true, true, false, false, false, false, false, false, false, false, false, false, false, false, false, false, false, false, false, false, false, false, false, false, false, false] rfl rfl (any_of HT_.out (by kernel_rfl)) (fun _ _ _ h => h) (Or.inl ⟨by rfl, ?_⟩) ?_ ?_
             rotate_left
             ·intro w'
              go_simp
              with_reducible rfl
             rotate_left
             ·simp only [Act.put, List.setIfInBounds_toArray, List.set_cons_zero, List.set_cons_succ, i64_w, i32_w]
              rfl
             refine pure_ (i := 4) (N := some 129) (v := ?_) (a' := ?_) #[true, true, true, true, true, false, false, false, false, false, false, false, false, false, false, false, false, false, false, false, false, false, false, false, false, false, false, false] rfl rfl (any_of HT_.out (by kernel_rfl)) (fun _ _ _ h => h) (Or.inl ⟨by rfl, ?_⟩) ?_ ?_
             rotate_left
             ·intro w'
              go_simp
              with_reducible rfl
             rotate_left
             ·simp only [Act.put, List.setIfInBounds_toArray, List.set_cons_zero, List.set_cons_succ, i64_w, i32_w]
              rfl
             refine pure_ (i := 6) (N := some 131) (v := ?_) (a' := ?_) #[true, true, true, true, true, false, true, false, false, false, false, false, false, false, false, false, false, false, false, false, false, false, false, false, false, false, false, false] rfl rfl (any_of HT_.out (by kernel_rfl)) (fun _ _ _ h => h) (Or.inl ⟨by rfl, ?_⟩) ?_ ?_
             rotate_left
             ·intro w'
              go_simp
              with_reducible rfl
             rotate_left
             ·simp only [Act.put, List.setIfInBounds_toArray, List.set_cons_zero, List.set_cons_succ, i64_w, i32_w]
              rfl
             refine take_ (i := 5) (N := some 130) (v := ?_) (a' := ?_) #[true, true, true, true, true, true, true, false, false, false, false, false, false, false, false, false, false, false, false, false, false, false, false, false, false, false, false, false] rfl rfl (take_ofW HT_.out HW_.out (by kernel_rfl)) (fun _ _ _ h => h) (Or.inl ⟨by rfl, ?_⟩) hHeld ?_ ?_
             rotate_left
             ·rintro w' ⟨s0, s1, s2⟩
              go_simp
              with_reducible rfl
             rotate_left
             ·simp only [Act.put, List.setIfInBounds_toArray, List.set_cons_zero, List.set_cons_succ, i64_w, i32_w]
              rfl
             refine take_ (i := 7) (N := some 132) (v := ?_) (a' := ?_) #[true, true, true, true, true, true, true, true, false, false, false, false, false, false, false, false, false, false, false, false, false, false, false, false, false, false, false, false] rfl rfl (take_ofW HT_.out HW_.out (by kernel_rfl)) (fun _ _ _ h => h) (Or.inl ⟨by rfl, ?_⟩) hHeld ?_ ?_
             rotate_left
             ·rintro w' ⟨s0, s1, s2⟩
              go_simp
              with_reducible rfl
             rotate_left
             ·simp only [Act.put, List.setIfInBounds_toArray, List.set_cons_zero, List.set_cons_succ, i64_w, i32_w]
              rfl
             refine one_ (i := 8) (N := some 133) #[true, true, true, true, true, true, true, true, true, false, false, false, false, false, false, false, false, false, false, false, false, false, false, false, false, false, false, false] rfl rfl (one_of HT_.out (by kernel_rfl)) (by decide) (fun K hK => ?_)
             refine goes_ Try.func27 (by kernel_rfl) rfl #[.slice Ao158 t369.length co158, .slice Ao166 t374.length co166] (by rfl) rfl rfl (by (try simp only [List.map_toArray, List.map_cons, List.map_nil]); first | done | rfl | (simp only [List.length_drop, List.length_take]; rfl)) ?_
             with_reducible refine (laws_sameBools.calls k _ _ t369 _ _ t374 true _ ?side1 ?side2 ?side3 ?side4 A126.out).mono ?_
             (case side1 => repeat (first | exact (Kd.R_reads' HO371.out).2.2 | (with_reducible refine Kd.C_alloc ?_ _) | (with_reducible refine Kd.C_drewN ?_ _) | (with_reducible refine Kd.C_drew ?_)))
             (case side2 => exact (Kd.R_reads' HO371.out).2.1)
             (case side3 => repeat (first | exact (Kd.R_reads' HO376.out).2.2 | (with_reducible refine Kd.C_alloc ?_ _) | (with_reducible refine Kd.C_drewN ?_ _) | (with_reducible refine Kd.C_drew ?_)))
             (case side4 => exact (Kd.R_reads' HO376.out).2.1)
             rintro e w' ⟨rfl, ⟨nd, rfl⟩⟩
             refine ⟨_, rfl, ?_⟩
             refine hK.out _ _ ⟨(blk_cell BK373.out 0).trans rfl, (blk_cell BK378.out 0).trans rfl, (blk_cell BK368.out 0).trans rfl⟩ (fun hHeld => ?_)
             clear hK K
             refine norm_ (a' := ?_) ?_ ?_
             rotate_left
             ·show Act.put _ (some 133) _ = _
              simp only [Act.put, List.setIfInBounds_toArray, List.set_cons_zero, List.set_cons_succ, i64_w, i32_w]
              rfl
             refine pure_ (i := 9) (N := some 134) (v := ?_) (a' := ?_) #[true, true, true, true, true, true, true, true, true, true, false, false, false, false, false, false, false, false, false, false, false, false, false, false, false, false, false, false] rfl rfl (any_of HT_.out (by kernel_rfl)) (fun _ _ _ h => h) (Or.inl ⟨by rfl, ?_⟩) ?_ ?_
             rotate_left
             ·intro w'
              go_simp
              with_reducible rfl
             rotate_left
             ·simp only [Act.put, List.setIfInBounds_toArray, List.set_cons_zero, List.set_cons_succ, i64_w, i32_w]
              rfl
             refine pure_ (i := 10) (N := some 135) (v := ?_) (a' := ?_) #[true, true, true, true, true, true, true, true, true, true, true, false, false, false, false, false, false, false, false, false, false, false, false, false, false, false, false, false] rfl rfl (any_of HT_.out (by kernel_rfl)) (fun _ _ _ h => h) (Or.inl ⟨by rfl, ?_⟩) ?_ ?_
             rotate_left
             ·intro w'
              go_simp
              with_reducible rfl
             rotate_left
             ·simp only [Act.put, List.setIfInBounds_toArray, List.set_cons_zero, List.set_cons_succ, i64_w, i32_w]
              rfl
             refine pure_ (i := 11) (N := some 136) (v := ?_) (a' := ?_) #[true, true, true, true, true, true, true, true, true, true, true, true, false, false, false, false, false, false, false, false, false, false, false, false, false, false, false, false] rfl rfl (any_of HT_.out (by kernel_rfl)) (fun _ _ _ h => h) (Or.inl ⟨by rfl, ?_⟩) ?_ ?_
             rotate_left
             ·intro w'
              go_simp
              with_reducible rfl
             rotate_left
             ·simp only [Act.put, List.setIfInBounds_toArray, List.set_cons_zero, List.set_cons_succ, i64_w, i32_w]
              rfl
             refine pure_ (i := 12) (N := some 137) (v := ?_) (a' := ?_) #[true, true, true, true, true, true, true, true, true, true, true, true, true, false, false, false, false, false, false, false, false, false, false, false, false, false, false, false] rfl rfl (any_of HT_.out (by kernel_rfl)) (fun _ _ _ h => h) (Or.inl ⟨by rfl, ?_⟩) ?_ ?_
             rotate_left
             ·intro w'
              go_simp
              with_reducible rfl
             rotate_left
             ·simp only [Act.put, List.setIfInBounds_toArray, List.set_cons_zero, List.set_cons_succ, i64_w, i32_w]
              rfl
             refine pure_ (i := 13) (N := some 138) (v := ?_) (a' := ?_) #[true, true, true, true, true, true, true, true, true, true, true, true, true, true, false, false, false, false, false, false, false, false, false, false, false, false, false, false] rfl rfl (any_of HT_.out (by kernel_rfl)) (fun _ _ _ h => h) (Or.inl ⟨by rfl, ?_⟩) ?_ ?_
             rotate_left
             ·intro w'
              go_simp
              with_reducible rfl
             rotate_left
             ·simp only [Act.put, List.setIfInBounds_toArray, List.set_cons_zero, List.set_cons_succ, i64_w, i32_w]
              rfl
             refine pure_ (i := 14) (N := some 139) (v := ?_) (a' := ?_) #[true, true, true, true, true, true, true, true, true, true, true, true, true, true, true, false, false, false, false, false, false, false, false, false, false, false, false, false] rfl rfl (any_of HT_.out (by kernel_rfl)) (fun _ _ _ h => h) (Or.inl ⟨by rfl, ?_⟩) ?_ ?_
             rotate_left
             ·intro w'
              go_simp
              with_reducible rfl
             rotate_left
             ·simp only [Act.put, List.setIfInBounds_toArray, List.set_cons_zero, List.set_cons_succ, i64_w, i32_w]
              rfl
             refine pure_ (i := 15) (N := some 140) (v := ?_) (a' := ?_) #[true, true, true, true, true, true, true, true, true, true, true, true, true, true, true, true, false, false, false, false, false, false, false, false, false, false, false, false] rfl rfl (any_of HT_.out (by kernel_rfl)) (fun _ _ _ h => h) (Or.inl ⟨by rfl, ?_⟩) ?_ ?_
             rotate_left
             ·intro w'
              go_simp
              with_reducible rfl
             rotate_left
             ·simp only [Act.put, List.setIfInBounds_toArray, List.set_cons_zero, List.set_cons_succ, i64_w, i32_w]
              rfl
             refine pure_ (i := 16) (N := some 141) (v := ?_) (a' := ?_) #[true, true, true, true, true, true, true, true, true, true, true, true, true, true, true, true, true, false, false, false, false, false, false, false, false, false, false, false] rfl rfl (any_of HT_.out (by kernel_rfl)) (fun _ _ _ h => h) (Or.inl ⟨by rfl, ?_⟩) ?_ ?_
             rotate_left
             ·intro w'
              go_simp
              with_reducible rfl
             rotate_left
             ·simp only [Act.put, List.setIfInBounds_toArray, List.set_cons_zero, List.set_cons_succ, i64_w, i32_w]
              rfl
             refine pure_ (i := 17) (N := some 142) (v := ?_) (a' := ?_) #[true, true, true, true, true, true, true, true, true, true, true, true, true, true, true, true, true, true, false, false, false, false, false, false, false, false, false, false] rfl rfl (any_of HT_.out (by kernel_rfl)) (fun _ _ _ h => h) (Or.inl ⟨by rfl, ?_⟩) ?_ ?_
             rotate_left
             ·intro w'
              go_simp
              with_reducible rfl
             rotate_left
             ·simp only [Act.put, List.setIfInBounds_toArray, List.set_cons_zero, List.set_cons_succ, i64_w, i32_w]
              rfl
             refine pure_ (i := 18) (N := some 143) (v := ?_) (a' := ?_) #[true, true, true, true, true, true, true, true, true, true, true, true, true, true, true, true, true, true, true, false, false, false, false, false, false, false, false, false] rfl rfl (any_of HT_.out (by kernel_rfl)) (fun _ _ _ h => h) (Or.inl ⟨by rfl, ?_⟩) ?_ ?_
             rotate_left
             ·intro w'
              go_simp
              with_reducible rfl
             rotate_left
             ·simp only [Act.put, List.setIfInBounds_toArray, List.set_cons_zero, List.set_cons_succ, i64_w, i32_w]
              rfl
             refine pure_ (i := 19) (N := some 144) (v := ?_) (a' := ?_) #[true, true, true, true, true, true, true, true, true, true, true, true, true, true, true, true, true, true, true, true, false, false, false, false, false, false, false, false] rfl rfl (any_of HT_.out (by kernel_rfl)) (fun _ _ _ h => h) (Or.inl ⟨by rfl, ?_⟩) ?_ ?_
             rotate_left
             ·intro w'
              go_simp
              with_reducible rfl
             rotate_left
             ·simp only [Act.put, List.setIfInBounds_toArray, List.set_cons_zero, List.set_cons_succ, i64_w, i32_w]
              rfl
             refine pure_ (i := 20) (N := some 145) (v := ?_) (a' := ?_) #[true, true, true, true, true, true, true, true, true, true, true, true, true, true, true, true, true, true, true, true, true, false, false, false, false, false, false, false] rfl rfl (any_of HT_.out (by kernel_rfl)) (fun _ _ _ h => h) (Or.inl ⟨by rfl, ?_⟩) ?_ ?_
             rotate_left
             ·intro w'
              go_simp
              with_reducible rfl
             rotate_left
             ·simp only [Act.put, List.setIfInBounds_toArray, List.set_cons_zero, List.set_cons_succ, i64_w, i32_w]
              rfl
             refine pure_ (i := 21) (N := some 146) (v := ?_) (a' := ?_) #[true, true, true, true, true, true, true, true, true, true, true, true, true, true, true, true, true, true, true, true, true, true, false, false, false, false, false, false] rfl rfl (any_of HT_.out (by kernel_rfl)) (fun _ _ _ h => h) (Or.inl ⟨by rfl, ?_⟩) ?_ ?_
             rotate_left
             ·intro w'
              go_simp
              with_reducible rfl
             rotate_left
             ·simp only [Act.put, List.setIfInBounds_toArray, List.set_cons_zero, List.set_cons_succ, i64_w, i32_w]
              rfl
             refine take_ (i := 22) (N := some 147) (v := ?_) (a' := ?_) #[true, true, true, true, true, true, true, true, true, true, true, true, true, true, true, true, true, true, true, true, true, true, true, false, false, false, false, false] rfl rfl (take_ofW HT_.out HW_.out (by kernel_rfl)) (fun _ _ _ h => h) (Or.inl ⟨by rfl, ?_⟩) hHeld ?_ ?_
             rotate_left
             ·rintro w' ⟨s0, s1, s2⟩
              go_simp
              with_reducible rfl
             rotate_left
             ·simp only [Act.put, List.setIfInBounds_toArray, List.set_cons_zero, List.set_cons_succ, i64_w, i32_w]
              rfl
             refine take_ (i := 24) (N := some 149) (v := ?_) (a' := ?_) #[true, true, true, true, true, true, true, true, true, true, true, true, true, true, true, true, true, true, true, true, true, true, true, false, true, false, false, false] rfl rfl (take_ofW HT_.out HW_.out (by kernel_rfl)) (fun _ _ _ h => h) (Or.inl ⟨by rfl, ?_⟩) hHeld ?_ ?_
             rotate_left
             ·rintro w' ⟨s0, s1, s2⟩
              go_simp
              with_reducible rfl
             rotate_left
             ·simp only [Act.put, List.setIfInBounds_toArray, List.set_cons_zero, List.set_cons_succ, i64_w, i32_w]
              rfl
             refine one_ (i := 23) (N := some 148) #[true, true, true, true, true, true, true, true, true, true, true, true, true, true, true, true, true, true, true, true, true, true, true, true, true, false, false, false] rfl rfl (one_of HT_.out (by kernel_rfl)) (by decide) (fun K hK => ?_)
             refine goes_ Try.func29 (by kernel_rfl) rfl #[.agg #[.slice Ao152 t364.length co152]] (by rfl) rfl rfl (by (try simp only [List.map_toArray, List.map_cons, List.map_nil]); first | done | rfl | (simp only [List.length_drop, List.length_take]; rfl)) ?_
             with_reducible refine (impl_GoodFilter.calls _ _ t364 t384 _ ?side1 ?side2 A130.out).mono ?_
             (case side1 => repeat (first | exact (Kd.R_reads' HO366.out).2.2 | (with_reducible refine Kd.C_alloc ?_ _) | (with_reducible refine Kd.C_drewN ?_ _) | (with_reducible refine Kd.C_drew ?_)))
             (case side2 => exact (Kd.R_reads' HO366.out).2.1)
             rintro e w177 ⟨rfl, hb⟩
             refine ⟨_, rfl, ?_⟩
             replace HO321 := Aside0.mk (Kd.R_below (aR HO321) hb)
             replace HO324 := Aside0.mk (Kd.R_below (aR HO324) hb)
             replace HO329 := Aside0.mk (Kd.R_below (aR HO329) hb)
             replace HO366 := Aside0.mk (Kd.R_below (aR HO366) hb)
             replace HO371 := Aside0.mk (Kd.R_below (aR HO371) hb)
             replace HO376 := Aside0.mk (Kd.R_below (aR HO376) hb)
             replace BK326 := Aside0.mk (blk_below (g := gb326) (o := .cells #[.slice Ao142 t322.length co142] 34 (0, 0)) (kB BK326) hb)
             replace BK331 := Aside0.mk (blk_below (g := gb331) (o := .cells #[.slice Ao146 t327.length co146] 34 (0, 0)) (kB BK331) hb)
             replace BK368 := Aside0.mk (blk_below (g := gb368) (o := .cells #[.slice Ao152 t364.length co152] 34 (0, 0)) (kB BK368) hb)
             replace BK373 := Aside0.mk (blk_below (g := gb373) (o := .cells #[.slice Ao158 t369.length co158] 34 (0, 0)) (kB BK373) hb)
             replace BK378 := Aside0.mk (blk_below (g := gb378) (o := .cells #[.slice Ao166 t374.length co166] 34 (0, 0)) (kB BK378) hb)
             replace HB := Aside0.mk (below_step (bB HB) hb)
             (try clear hb);(try clear hb2);(try clear hk);(try clear hi)
             refine hK.out _ _ ⟨(blk_cell BK373.out 0).trans rfl, (blk_cell BK378.out 0).trans rfl, (blk_cell BK368.out 0).trans rfl⟩ (fun hHeld => ?_)
             clear hK K
             refine norm_ (a' := ?_) ?_ ?_
             rotate_left
             ·show Act.put _ (some 148) _ = _
              simp only [Act.put, List.setIfInBounds_toArray, List.set_cons_zero, List.set_cons_succ, i64_w, i32_w]
              rfl
             refine one_ (i := 25) (N := some 150) #[true, true, true, true, true, true, true, true, true, true, true, true, true, true, true, true, true, true, true, true, true, true, true, true, true, true, false, false] rfl rfl (one_of HT_.out (by kernel_rfl)) (by decide) (fun K hK => ?_)
             refine goes_ Try.func31 (by kernel_rfl) rfl #[.agg #[.slice Ao152 t364.length co152]] (by rfl) rfl rfl (by (try simp only [List.map_toArray, List.map_cons, List.map_nil]); first | done | rfl | (simp only [List.length_drop, List.length_take]; rfl)) ?_
             with_reducible refine (spec_GoodFilter.calls _ _ t364 t385 _ ?side1 ?side2 A131.out).mono ?_
             (case side1 => repeat (first | exact (Kd.R_reads' HO366.out).2.2 | (with_reducible refine Kd.C_alloc ?_ _) | (with_reducible refine Kd.C_drewN ?_ _) | (with_reducible refine Kd.C_drew ?_)))
             (case side2 => exact (Kd.R_reads' HO366.out).2.1)
             rintro e w178 ⟨rfl, hb⟩
             refine ⟨_, rfl, ?_⟩
             replace HO321 := Aside0.mk (Kd.R_below (aR HO321) hb)
             replace HO324 := Aside0.mk (Kd.R_below (aR HO324) hb)
             replace HO329 := Aside0.mk (Kd.R_below (aR HO329) hb)
             replace HO366 := Aside0.mk (Kd.R_below (aR HO366) hb)
             replace HO371 := Aside0.mk (Kd.R_below (aR HO371) hb)
             replace HO376 := Aside0.mk (Kd.R_below (aR HO376) hb)
             replace BK326 := Aside0.mk (blk_below (g := gb326) (o := .cells #[.slice Ao142 t322.length co142] 34 (0, 0)) (kB BK326) hb)
             replace BK331 := Aside0.mk (blk_below (g := gb331) (o := .cells #[.slice Ao146 t327.length co146] 34 (0, 0)) (kB BK331) hb)
             replace BK368 := Aside0.mk (blk_below (g := gb368) (o := .cells #[.slice Ao152 t364.length co152] 34 (0, 0)) (kB BK368) hb)
             replace BK373 := Aside0.mk (blk_below (g := gb373) (o := .cells #[.slice Ao158 t369.length co158] 34 (0, 0)) (kB BK373) hb)
             replace BK378 := Aside0.mk (blk_below (g := gb378) (o := .cells #[.slice Ao166 t374.length co166] 34 (0, 0)) (kB BK378) hb)
             replace HB := Aside0.mk (below_step (bB HB) hb)
             (try clear hb);(try clear hb2);(try clear hk);(try clear hi)
             refine hK.out _ _ ⟨(blk_cell BK373.out 0).trans rfl, (blk_cell BK378.out 0).trans rfl, (blk_cell BK368.out 0).trans rfl⟩ (fun hHeld => ?_)
             clear hK K
             refine norm_ (a' := ?_) ?_ ?_
             rotate_left
             ·show Act.put _ (some 150) _ = _
              simp only [Act.put, List.setIfInBounds_toArray, List.set_cons_zero, List.set_cons_succ, i64_w, i32_w]
              rfl
             refine pure_ (i := 26) (N := some 151) (v := ?_) (a' := ?_) #[true, true, true, true, true, true, true, true, true, true, true, true, true, true, true, true, true, true, true, true, true, true, true, true, true, true, true, false] rfl rfl (any_of HT_.out (by kernel_rfl)) (fun _ _ _ h => h) (Or.inl ⟨by rfl, ?_⟩) ?_ ?_
             rotate_left
             ·intro w'
              go_simp
              with_reducible rfl
             rotate_left
             ·simp only [Act.put, List.setIfInBounds_toArray, List.set_cons_zero, List.set_cons_succ, i64_w, i32_w]
              rfl
             refine pure_ (i := 27) (N := some 152) (v := ?_) (a' := ?_) #[true, true, true, true, true, true, true, true, true, true, true, true, true, true, true, true, true, true, true, true, true, true, true, true, true, true, true, true] rfl rfl (any_of HT_.out (by kernel_rfl)) (fun _ _ _ h => h) (Or.inl ⟨by rfl, ?_⟩) ?_ ?_
             rotate_left
             ·intro w'
              go_simp
              with_reducible rfl
             rotate_left
             ·simp only [Act.put, List.setIfInBounds_toArray, List.set_cons_zero, List.set_cons_succ, i64_w, i32_w]
              rfl
             refine done_ (done_of HT_.out (by kernel_rfl)) ?_
             have hcz179_0 : w178.cell? ⟨gb373, 0, none⟩ = some (.slice Ao158 t369.length co158) := (blk_cell BK373.out 0).trans rfl
             have hfz179_0 := blk_frozen BK373.out 0
             try go_wp2_with (first | ((with_reducible refine gate_callee (f := 17) rfl ?_); refine goesL_ (some 157) rfl rfl Try.func17 (by kernel_rfl) rfl #[.agg #[.slice Ao158 t369.length co158], .int .i64 t367] rfl (by (try simp only [List.map_toArray, List.map_cons, List.map_nil]); first | done | rfl | (simp only [List.length_drop, List.length_take]; rfl)) ?_; (with_reducible refine (impl_MayHave.calls k _ _ t369 t367 true true _ ?side1 ?side2 A134.out).mono ?_); (case side1 => repeat (first | exact (Kd.R_reads' HO371.out).2.2 | (with_reducible refine Kd.C_alloc ?_ _) | (with_reducible refine Kd.C_drewN ?_ _) | (with_reducible refine Kd.C_drew ?_))); (case side2 => exact (Kd.R_reads' HO371.out).2.1); rintro e w180 ⟨rfl, hb⟩; refine ⟨_, rfl, ?_⟩; replace HO321 := Aside0.mk (Kd.R_below (aR HO321) hb); replace HO324 := Aside0.mk (Kd.R_below (aR HO324) hb); replace HO329 := Aside0.mk (Kd.R_below (aR HO329) hb); replace HO366 := Aside0.mk (Kd.R_below (aR HO366) hb); replace HO371 := Aside0.mk (Kd.R_below (aR HO371) hb); replace HO376 := Aside0.mk (Kd.R_below (aR HO376) hb); replace BK326 := Aside0.mk (blk_below (g := gb326) (o := .cells #[.slice Ao142 t322.length co142] 34 (0, 0)) (kB BK326) hb); replace BK331 := Aside0.mk (blk_below (g := gb331) (o := .cells #[.slice Ao146 t327.length co146] 34 (0, 0)) (kB BK331) hb); replace BK368 := Aside0.mk (blk_below (g := gb368) (o := .cells #[.slice Ao152 t364.length co152] 34 (0, 0)) (kB BK368) hb); replace BK373 := Aside0.mk (blk_below (g := gb373) (o := .cells #[.slice Ao158 t369.length co158] 34 (0, 0)) (kB BK373) hb); replace BK378 := Aside0.mk (blk_below (g := gb378) (o := .cells #[.slice Ao166 t374.length co166] 34 (0, 0)) (kB BK378) hb); replace HB := Aside0.mk (below_step (bB HB) hb); (try clear hb); (try clear hb2); (try clear hk); (try clear hi); have hcz181_0 : w180.cell? ⟨gb373, 0, none⟩ = some (.slice Ao158 t369.length co158) := (blk_cell BK373.out 0).trans rfl; have hfz181_0 := blk_frozen BK373.out 0; have hcz182_0 : w180.cell? ⟨gb368, 0, none⟩ = some (.slice Ao152 t364.length co152) := (blk_cell BK368.out 0).trans rfl; have hfz182_0 := blk_frozen BK368.out 0) | (go_at_call 27; (with_reducible refine (laws_sameBools.calls k _ _ t369 _ _ t364 t388 _ ?side1 ?side2 ?side3 ?side4 A137.out).mono ?_); (case side1 => repeat (first | exact (Kd.R_reads' HO371.out).2.2 | (with_reducible refine Kd.C_alloc ?_ _) | (with_reducible refine Kd.C_drewN ?_ _) | (with_reducible refine Kd.C_drew ?_))); (case side2 => exact (Kd.R_reads' HO371.out).2.1); (case side3 => repeat (first | exact (Kd.R_reads' HO366.out).2.2 | (with_reducible refine Kd.C_alloc ?_ _) | (with_reducible refine Kd.C_drewN ?_ _) | (with_reducible refine Kd.C_drew ?_))); (case side4 => exact (Kd.R_reads' HO366.out).2.1); rintro e w' ⟨rfl, ⟨nd, rfl⟩⟩))
             go_ret
             exact ⟨by first | rfl | (simp [errW_none, errW_some] <;> rfl) | (simp [*, errW_none, errW_some] <;> rfl), bB HB⟩
            ·replace c136 := Bool.eq_false_iff.mpr c136
             subst c136
             have H1 : (none) = some r := by rw [if_neg (show ¬ (false = true) by decide)] at H; exact H
             clear H
             have H := H1
             clear H1
             exact absurd H (by simp)
           ·replace c135 := Bool.eq_false_iff.mpr c135
            subst c135
            have H1 : (none) = some r := by rw [if_neg (show ¬ (false = true) by decide)] at H; exact H
            clear H
            have H := H1
            clear H1
            exact absurd H (by simp)
          ·replace c133 := Bool.eq_false_iff.mpr c133
           subst c133
           have H1 : (some true) = some r := by rw [if_neg (show ¬ (false = true) by decide)] at H; exact H
           clear H
           have H := H1
           clear H1
           obtain rfl := Option.some.inj H
           go_enter Try.func7, Try.ntmps7
           try go_wp2_with (first | ((with_reducible refine gate_callee (f := 26) rfl ?_); refine goesL_ (some 35) rfl rfl Try.func26 (by kernel_rfl) rfl #[.slice A0 l0.length c0] rfl (by (try simp only [List.map_toArray, List.map_cons, List.map_nil]); first | done | rfl | (simp only [List.length_drop, List.length_take]; rfl)) ?_; (with_reducible refine (spec_DrawFilterOf.calls k _ _ l0 t319 _ ?side1 ?side2 A4.out).mono ?_); (case side1 => repeat (first | exact HR0.out | (with_reducible refine Kd.C_alloc ?_ _) | (with_reducible refine Kd.C_drewN ?_ _) | (with_reducible refine Kd.C_drew ?_))); (case side2 => exact HC0.out); rintro e w183 ⟨v320, rfl, ho0, hb⟩; refine ⟨_, rfl, ?_⟩; have HO321 := Aside0.mk (Kd.R_lower ho0 (below_size (bB HB))); replace HB := Aside0.mk (below_step (bB HB) hb); (try clear hb); (try clear hb2); (try clear hk); (try clear hi); (try clear ho0); obtain ⟨Ao184, co184, eo184⟩ := Kd.R_slice HO321.out; subst eo184) | ((with_reducible refine gate_callee (f := 25) rfl ?_); refine goesL_ (some 38) rfl rfl Try.func25 (by kernel_rfl) rfl #[.slice Ao184 t319.length co184] rfl (by (try simp only [List.map_toArray, List.map_cons, List.map_nil]); first | done | rfl | (simp only [List.length_drop, List.length_take]; rfl)) ?_; (with_reducible refine (impl_FilterOf.calls k _ _ t319 t322 false _ ?side1 ?side2 A5.out).mono ?_); (case side1 => repeat (first | exact (Kd.R_reads' HO321.out).2.2 | (with_reducible refine Kd.C_alloc ?_ _) | (with_reducible refine Kd.C_drewN ?_ _) | (with_reducible refine Kd.C_drew ?_))); (case side2 => exact (Kd.R_reads' HO321.out).2.1); rintro e w185 ⟨v323, rfl, ho0, hb⟩; refine ⟨_, rfl, ?_⟩; replace HO321 := Aside0.mk (Kd.R_below (aR HO321) hb); have HO324 := Aside0.mk (Kd.R_lower ho0 (below_size (bB HB))); replace HB := Aside0.mk (below_step (bB HB) hb); (try clear hb); (try clear hb2); (try clear hk); (try clear hi); (try clear ho0)) | ((with_reducible refine gate_dst (N := 6) rfl ?_); (try (refine gate_guard (by rfl) ?_; dsimp only)); refine box_event ?hg (N := 6) ?hd (cs := #[.slice none 0 0]) (t := 34) ?hr ?_; (case hd => rfl); (case hg => rfl); (case hr => first | (go_simp; done) | (go_simp; rfl)); intro gb326 hg w186 hbox hb; replace HO321 := Aside0.mk (Kd.R_below (aR HO321) hb); replace HO324 := Aside0.mk (Kd.R_below (aR HO324) hb); have BK326 := Aside0.mk (hbox); have GW326 := Aside0.mk ((by rw [hg]; exact (below_size (bB HB)) : w.heap.size ≤ gb326)); have GE326 := Aside0.mk ((by rw [hg]; exact (below_size (bB HB)) : w.heap.size ≤ gb326)); replace HB := Aside0.mk (below_step (bB HB) hb); clear hb hbox hg; obtain ⟨Ao187, co187, eo187⟩ := Kd.R_slice HO324.out; subst eo187; have hcz188_0 : w186.cell? ⟨gb326, 0, none⟩ = some (.slice none 0 0) := (blk_cell BK326.out 0).trans rfl; have hfz188_0 := blk_frozen BK326.out 0) | ((with_reducible refine gate_callee (f := 23) rfl ?_); refine goesL_ (some 43) rfl rfl Try.func23 (by kernel_rfl) rfl #[.slice Ao184 t319.length co184] rfl (by (try simp only [List.map_toArray, List.map_cons, List.map_nil]); first | done | rfl | (simp only [List.length_drop, List.length_take]; rfl)) ?_; (with_reducible refine (spec_FilterOf.calls k _ _ t319 t327 t330 _ ?side1 ?side2 A6.out).mono ?_); (case side1 => refine (Kd.R_reads' (e := 3) (base := w.heap.size) (ok := fun k_ => True) (n := t319.length) (c := co184) ?_).2.2; exact (by (with_reducible repeat (first | apply Kd.R_alloc | apply Kd.R_drewN | apply Kd.R_drew)); exact (Kd.R_mono (Kd.R_far (p := ⟨gb326, 0, none⟩) (Kd.R_types HO321.out BK326.out (by decide)) (fun _ hk => hk.2) (.slice Ao187 t322.length co187)) (fun _ h_ => h_.1)))); (case side2 => exact (Kd.R_reads' HO321.out).2.1); rintro e w189 ⟨v328, rfl, ho0, hb⟩; refine ⟨_, rfl, ?_⟩; replace HO321 := Aside0.mk (Kd.R_below (by (with_reducible repeat (first | apply Kd.R_alloc | apply Kd.R_drewN | apply Kd.R_drew)); exact (Kd.R_mono (Kd.R_far (p := ⟨gb326, 0, none⟩) (Kd.R_types HO321.out BK326.out (by decide)) (fun _ hk => hk.2) (.slice Ao187 t322.length co187)) (fun _ h_ => h_.1))) hb); have HO329 := Aside0.mk (Kd.R_lower (Kd.R_new' ho0 (Kd.R_lt (by (with_reducible repeat (first | apply Kd.R_alloc | apply Kd.R_drewN | apply Kd.R_drew)); exact (Kd.R_mono (Kd.R_far (p := ⟨gb326, 0, none⟩) (Kd.R_types HO324.out BK326.out (by decide)) (fun _ hk => hk.2) (.slice Ao187 t322.length co187)) (fun _ h_ => h_.1))))) (below_size (bB HB))); replace HO324 := Aside0.mk (Kd.R_elder' (by (with_reducible repeat (first | apply Kd.R_alloc | apply Kd.R_drewN | apply Kd.R_drew)); exact (Kd.R_mono (Kd.R_far (p := ⟨gb326, 0, none⟩) (Kd.R_types HO324.out BK326.out (by decide)) (fun _ hk => hk.2) (.slice Ao187 t322.length co187)) (fun _ h_ => h_.1))) (Kd.R_base ho0) hb); replace BK326 := Aside0.mk (blk_below (g := gb326) (o := .cells #[.slice Ao187 t322.length co187] 34 (0, 0)) (by (with_reducible repeat (first | refine blk_drewN ?_ _ | refine blk_drew ?_ | refine blk_alloc ?_ _)); refine blk_put (cs := #[.slice none 0 0]) ?_ 0 _ rfl; (with_reducible repeat (first | refine blk_drewN ?_ _ | refine blk_drew ?_ | refine blk_alloc ?_ _)); exact BK326.out) hb); replace HB := Aside0.mk (below_step (bB HB) hb); (try clear hb); (try clear hb2); (try clear hk); (try clear hi); (try clear ho0)) | ((with_reducible refine gate_dst (N := 8) rfl ?_); (try (refine gate_guard (by rfl) ?_; dsimp only)); refine box_event ?hg (N := 8) ?hd (cs := #[.slice none 0 0]) (t := 34) ?hr ?_; (case hd => rfl); (case hg => rfl); (case hr => first | (go_simp; done) | (go_simp; rfl)); intro gb331 hg w190 hbox hb; replace HO321 := Aside0.mk (Kd.R_below (aR HO321) hb); replace HO324 := Aside0.mk (Kd.R_below (aR HO324) hb); replace HO329 := Aside0.mk (Kd.R_below (aR HO329) hb); have BK331 := Aside0.mk (hbox); have GW331 := Aside0.mk ((by rw [hg]; exact (below_size (bB HB)) : w.heap.size ≤ gb331)); have GE331 := Aside0.mk ((by rw [hg]; exact (below_size (bB HB)) : w.heap.size ≤ gb331)); replace HB := Aside0.mk (below_step (bB HB) hb); have NB326_331 := Aside0.mk ((by rw [hg]; exact Nat.ne_of_lt (blk_lt (g := gb326) (o := .cells #[.slice Ao187 t322.length co187] 34 (0, 0)) (kB BK326)) : gb326 ≠ gb331)); have NB331_326 := Aside0.mk ((by rw [hg]; exact Nat.ne_of_gt (blk_lt (g := gb326) (o := .cells #[.slice Ao187 t322.length co187] 34 (0, 0)) (kB BK326)) : gb331 ≠ gb326)); replace BK326 := Aside0.mk (blk_below (g := gb326) (o := .cells #[.slice Ao187 t322.length co187] 34 (0, 0)) (kB BK326) hb); clear hb hbox hg; obtain ⟨Ao191, co191, eo191⟩ := Kd.R_slice HO329.out; subst eo191; have hnb192 := NB331_326.out; have hnc192 := NB326_331.out; have hcz193_0 : w190.cell? ⟨gb331, 0, none⟩ = some (.slice none 0 0) := (blk_cell BK331.out 0).trans rfl; have hfz193_0 := blk_frozen BK331.out 0; have hcz194_0 : w190.cell? ⟨gb326, 0, none⟩ = some (.slice Ao187 t322.length co187) := (blk_cell BK326.out 0).trans rfl; have hfz194_0 := blk_frozen BK326.out 0) | (go_at_call 27; (with_reducible refine (laws_sameBools.calls k _ _ t322 _ _ t327 true _ ?side1 ?side2 ?side3 ?side4 A8.out).mono ?_); (case side1 => refine (Kd.R_reads' (e := 4) (base := w.heap.size) (ok := fun k_ => (True ∧ some k_ ≠ (.slice Ao191 t327.length co191 : Value).ownBlock)) (n := t322.length) (c := co187) ?_).2.2; exact (by (with_reducible repeat (first | apply Kd.R_alloc | apply Kd.R_drewN | apply Kd.R_drew)); exact (Kd.R_mono (Kd.R_far (p := ⟨gb331, 0, none⟩) (Kd.R_types HO324.out BK331.out (by decide)) (fun _ hk => hk.2) (.slice Ao191 t327.length co191)) (fun _ h_ => h_.1)))); (case side2 => exact (Kd.R_reads' HO324.out).2.1); (case side3 => refine (Kd.R_reads' (e := 4) (base := w.heap.size) (ok := fun k_ => (True ∧ some k_ ≠ (.slice Ao187 t322.length co187 : Value).ownBlock)) (n := t327.length) (c := co191) ?_).2.2; exact (by (with_reducible repeat (first | apply Kd.R_alloc | apply Kd.R_drewN | apply Kd.R_drew)); exact (Kd.R_mono (Kd.R_far (p := ⟨gb331, 0, none⟩) (Kd.R_types HO329.out BK331.out (by decide)) (fun _ hk => hk.2) (.slice Ao191 t327.length co191)) (fun _ h_ => h_.1)))); (case side4 => exact (Kd.R_reads' HO329.out).2.1); rintro e w' ⟨rfl, ⟨nd, rfl⟩⟩) | ((with_reducible refine gate_callee (f := 30) rfl ?_); refine goesL_ (some 98) rfl rfl Try.func30 (by kernel_rfl) rfl #[.slice A1 l1.length c1] rfl (by (try simp only [List.map_toArray, List.map_cons, List.map_nil]); first | done | rfl | (simp only [List.length_drop, List.length_take]; rfl)) ?_; (with_reducible refine (spec_DrawPutFilter.calls k _ _ l1 t364 t367 _ ?side1 ?side2 A120.out).mono ?_); (case side1 => exact Kd.C_below HR1.out (bB HB)); (case side2 => exact HC1.out); rintro e w195 ⟨v365, rfl, ho0, hb⟩; refine ⟨_, rfl, ?_⟩; replace HO321 := Aside0.mk (Kd.R_below (by (with_reducible repeat (first | apply Kd.R_alloc | apply Kd.R_drewN | apply Kd.R_drew)); exact (Kd.R_mono (Kd.R_far (p := ⟨gb331, 0, none⟩) (Kd.R_types HO321.out BK331.out (by decide)) (fun _ hk => hk.2) (.slice Ao191 t327.length co191)) (fun _ h_ => h_.1))) hb); have HO366 := Aside0.mk (Kd.R_lower (Kd.R_new' (Kd.R_new' ho0 (Kd.R_lt (by (with_reducible repeat (first | apply Kd.R_alloc | apply Kd.R_drewN | apply Kd.R_drew)); exact (Kd.R_mono (Kd.R_far (p := ⟨gb331, 0, none⟩) (Kd.R_types HO324.out BK331.out (by decide)) (fun _ hk => hk.2) (.slice Ao191 t327.length co191)) (fun _ h_ => h_.1))))) (Kd.R_lt (by (with_reducible repeat (first | apply Kd.R_alloc | apply Kd.R_drewN | apply Kd.R_drew)); exact (Kd.R_mono (Kd.R_far (p := ⟨gb331, 0, none⟩) (Kd.R_types HO329.out BK331.out (by decide)) (fun _ hk => hk.2) (.slice Ao191 t327.length co191)) (fun _ h_ => h_.1))))) (below_size (bB HB))); replace HO324 := Aside0.mk (Kd.R_elder' (by (with_reducible repeat (first | apply Kd.R_alloc | apply Kd.R_drewN | apply Kd.R_drew)); exact (Kd.R_mono (Kd.R_far (p := ⟨gb331, 0, none⟩) (Kd.R_types HO324.out BK331.out (by decide)) (fun _ hk => hk.2) (.slice Ao191 t327.length co191)) (fun _ h_ => h_.1))) (Kd.R_base ho0) hb); replace HO329 := Aside0.mk (Kd.R_elder' (by (with_reducible repeat (first | apply Kd.R_alloc | apply Kd.R_drewN | apply Kd.R_drew)); exact (Kd.R_mono (Kd.R_far (p := ⟨gb331, 0, none⟩) (Kd.R_types HO329.out BK331.out (by decide)) (fun _ hk => hk.2) (.slice Ao191 t327.length co191)) (fun _ h_ => h_.1))) (Kd.R_base ho0) hb); replace BK326 := Aside0.mk (blk_below (g := gb326) (o := .cells #[.slice Ao187 t322.length co187] 34 (0, 0)) (by (with_reducible repeat (first | refine blk_drewN ?_ _ | refine blk_drew ?_ | refine blk_alloc ?_ _)); refine blk_far ?_ NB326_331.out _; (with_reducible repeat (first | refine blk_drewN ?_ _ | refine blk_drew ?_ | refine blk_alloc ?_ _)); exact BK326.out) hb); replace BK331 := Aside0.mk (blk_below (g := gb331) (o := .cells #[.slice Ao191 t327.length co191] 34 (0, 0)) (by (with_reducible repeat (first | refine blk_drewN ?_ _ | refine blk_drew ?_ | refine blk_alloc ?_ _)); refine blk_put (cs := #[.slice none 0 0]) ?_ 0 _ rfl; (with_reducible repeat (first | refine blk_drewN ?_ _ | refine blk_drew ?_ | refine blk_alloc ?_ _)); exact BK331.out) hb); replace HB := Aside0.mk (below_step (bB HB) hb); (try clear hb); (try clear hb2); (try clear hk); (try clear hi); (try clear ho0)) | ((with_reducible refine gate_dst (N := 16) rfl ?_); (try (refine gate_guard (by rfl) ?_; dsimp only)); refine box_event ?hg (N := 16) ?hd (cs := #[.slice none 0 0]) (t := 34) ?hr ?_; (case hd => rfl); (case hg => rfl); (case hr => first | (go_simp; done) | (go_simp; rfl)); intro gb368 hg w196 hbox hb; replace HO321 := Aside0.mk (Kd.R_below (aR HO321) hb); replace HO324 := Aside0.mk (Kd.R_below (aR HO324) hb); replace HO329 := Aside0.mk (Kd.R_below (aR HO329) hb); replace HO366 := Aside0.mk (Kd.R_below (aR HO366) hb); have BK368 := Aside0.mk (hbox); have GW368 := Aside0.mk ((by rw [hg]; exact (below_size (bB HB)) : w.heap.size ≤ gb368)); have GE368 := Aside0.mk ((by rw [hg]; exact (below_size (bB HB)) : w.heap.size ≤ gb368)); replace HB := Aside0.mk (below_step (bB HB) hb); have NB326_368 := Aside0.mk ((by rw [hg]; exact Nat.ne_of_lt (blk_lt (g := gb326) (o := .cells #[.slice Ao187 t322.length co187] 34 (0, 0)) (kB BK326)) : gb326 ≠ gb368)); have NB368_326 := Aside0.mk ((by rw [hg]; exact Nat.ne_of_gt (blk_lt (g := gb326) (o := .cells #[.slice Ao187 t322.length co187] 34 (0, 0)) (kB BK326)) : gb368 ≠ gb326)); replace BK326 := Aside0.mk (blk_below (g := gb326) (o := .cells #[.slice Ao187 t322.length co187] 34 (0, 0)) (kB BK326) hb); have NB331_368 := Aside0.mk ((by rw [hg]; exact Nat.ne_of_lt (blk_lt (g := gb331) (o := .cells #[.slice Ao191 t327.length co191] 34 (0, 0)) (kB BK331)) : gb331 ≠ gb368)); have NB368_331 := Aside0.mk ((by rw [hg]; exact Nat.ne_of_gt (blk_lt (g := gb331) (o := .cells #[.slice Ao191 t327.length co191] 34 (0, 0)) (kB BK331)) : gb368 ≠ gb331)); replace BK331 := Aside0.mk (blk_below (g := gb331) (o := .cells #[.slice Ao191 t327.length co191] 34 (0, 0)) (kB BK331) hb); clear hb hbox hg; obtain ⟨Ao197, co197, eo197⟩ := Kd.R_slice HO366.out; subst eo197; have hnb198 := NB368_326.out; have hnc198 := NB326_368.out; have hnb199 := NB368_331.out; have hnc199 := NB331_368.out; have hcz200_0 : w196.cell? ⟨gb368, 0, none⟩ = some (.slice none 0 0) := (blk_cell BK368.out 0).trans rfl; have hfz200_0 := blk_frozen BK368.out 0) | ((with_reducible refine gate_callee (f := 20) rfl ?_); refine goesL_ (some 104) rfl rfl Try.func20 (by kernel_rfl) rfl #[.agg #[.slice Ao197 t364.length co197], .int .i64 t367] rfl (by (try simp only [List.map_toArray, List.map_cons, List.map_nil]); first | done | rfl | (simp only [List.length_drop, List.length_take]; rfl)) ?_; (with_reducible refine (impl_PutFilter.calls k _ _ t364 t367 t369 false _ ?side1 ?side2 A121.out).mono ?_); (case side1 => refine (Kd.R_reads' (e := 4) (base := w.heap.size) (ok := fun k_ => ((True ∧ some k_ ≠ (.slice Ao187 t322.length co187 : Value).ownBlock) ∧ some k_ ≠ (.slice Ao191 t327.length co191 : Value).ownBlock)) (n := t364.length) (c := co197) ?_).2.2; exact (by (with_reducible repeat (first | apply Kd.R_alloc | apply Kd.R_drewN | apply Kd.R_drew)); exact (Kd.R_mono (Kd.R_far (p := ⟨gb368, 0, none⟩) (Kd.R_types HO366.out BK368.out (by decide)) (fun _ hk => hk.2) (.slice Ao197 t364.length co197)) (fun _ h_ => h_.1)))); (case side2 => exact (Kd.R_reads' HO366.out).2.1); rintro e w201 ⟨v370, rfl, ho0, hb⟩; refine ⟨_, rfl, ?_⟩; replace HO321 := Aside0.mk (Kd.R_below (by (with_reducible repeat (first | apply Kd.R_alloc | apply Kd.R_drewN | apply Kd.R_drew)); exact (Kd.R_mono (Kd.R_far (p := ⟨gb368, 0, none⟩) (Kd.R_types HO321.out BK368.out (by decide)) (fun _ hk => hk.2) (.slice Ao197 t364.length co197)) (fun _ h_ => h_.1))) hb); have HO371 := Aside0.mk (Kd.R_lower (Kd.R_new' (Kd.R_new' (Kd.R_new' ho0 (Kd.R_lt (by (with_reducible repeat (first | apply Kd.R_alloc | apply Kd.R_drewN | apply Kd.R_drew)); exact (Kd.R_mono (Kd.R_far (p := ⟨gb368, 0, none⟩) (Kd.R_types HO324.out BK368.out (by decide)) (fun _ hk => hk.2) (.slice Ao197 t364.length co197)) (fun _ h_ => h_.1))))) (Kd.R_lt (by (with_reducible repeat (first | apply Kd.R_alloc | apply Kd.R_drewN | apply Kd.R_drew)); exact (Kd.R_mono (Kd.R_far (p := ⟨gb368, 0, none⟩) (Kd.R_types HO329.out BK368.out (by decide)) (fun _ hk => hk.2) (.slice Ao197 t364.length co197)) (fun _ h_ => h_.1))))) (Kd.R_lt (by (with_reducible repeat (first | apply Kd.R_alloc | apply Kd.R_drewN | apply Kd.R_drew)); exact (Kd.R_mono (Kd.R_far (p := ⟨gb368, 0, none⟩) (Kd.R_types HO366.out BK368.out (by decide)) (fun _ hk => hk.2) (.slice Ao197 t364.length co197)) (fun _ h_ => h_.1))))) (below_size (bB HB))); replace HO324 := Aside0.mk (Kd.R_elder' (by (with_reducible repeat (first | apply Kd.R_alloc | apply Kd.R_drewN | apply Kd.R_drew)); exact (Kd.R_mono (Kd.R_far (p := ⟨gb368, 0, none⟩) (Kd.R_types HO324.out BK368.out (by decide)) (fun _ hk => hk.2) (.slice Ao197 t364.length co197)) (fun _ h_ => h_.1))) (Kd.R_base ho0) hb); replace HO329 := Aside0.mk (Kd.R_elder' (by (with_reducible repeat (first | apply Kd.R_alloc | apply Kd.R_drewN | apply Kd.R_drew)); exact (Kd.R_mono (Kd.R_far (p := ⟨gb368, 0, none⟩) (Kd.R_types HO329.out BK368.out (by decide)) (fun _ hk => hk.2) (.slice Ao197 t364.length co197)) (fun _ h_ => h_.1))) (Kd.R_base ho0) hb); replace HO366 := Aside0.mk (Kd.R_elder' (by (with_reducible repeat (first | apply Kd.R_alloc | apply Kd.R_drewN | apply Kd.R_drew)); exact (Kd.R_mono (Kd.R_far (p := ⟨gb368, 0, none⟩) (Kd.R_types HO366.out BK368.out (by decide)) (fun _ hk => hk.2) (.slice Ao197 t364.length co197)) (fun _ h_ => h_.1))) (Kd.R_base ho0) hb); replace BK326 := Aside0.mk (blk_below (g := gb326) (o := .cells #[.slice Ao187 t322.length co187] 34 (0, 0)) (by (with_reducible repeat (first | refine blk_drewN ?_ _ | refine blk_drew ?_ | refine blk_alloc ?_ _)); refine blk_far ?_ NB326_368.out _; (with_reducible repeat (first | refine blk_drewN ?_ _ | refine blk_drew ?_ | refine blk_alloc ?_ _)); exact BK326.out) hb); replace BK331 := Aside0.mk (blk_below (g := gb331) (o := .cells #[.slice Ao191 t327.length co191] 34 (0, 0)) (by (with_reducible repeat (first | refine blk_drewN ?_ _ | refine blk_drew ?_ | refine blk_alloc ?_ _)); refine blk_far ?_ NB331_368.out _; (with_reducible repeat (first | refine blk_drewN ?_ _ | refine blk_drew ?_ | refine blk_alloc ?_ _)); exact BK331.out) hb); replace BK368 := Aside0.mk (blk_below (g := gb368) (o := .cells #[.slice Ao197 t364.length co197] 34 (0, 0)) (by (with_reducible repeat (first | refine blk_drewN ?_ _ | refine blk_drew ?_ | refine blk_alloc ?_ _)); refine blk_put (cs := #[.slice none 0 0]) ?_ 0 _ rfl; (with_reducible repeat (first | refine blk_drewN ?_ _ | refine blk_drew ?_ | refine blk_alloc ?_ _)); exact BK368.out) hb); replace HB := Aside0.mk (below_step (bB HB) hb); (try clear hb); (try clear hb2); (try clear hk); (try clear hi); (try clear ho0)) | ((with_reducible refine gate_dst (N := 18) rfl ?_); (try (refine gate_guard (by rfl) ?_; dsimp only)); refine box_event ?hg (N := 18) ?hd (cs := #[.slice none 0 0]) (t := 34) ?hr ?_; (case hd => rfl); (case hg => rfl); (case hr => first | (go_simp; done) | (go_simp; rfl)); intro gb373 hg w202 hbox hb; replace HO321 := Aside0.mk (Kd.R_below (aR HO321) hb); replace HO324 := Aside0.mk (Kd.R_below (aR HO324) hb); replace HO329 := Aside0.mk (Kd.R_below (aR HO329) hb); replace HO366 := Aside0.mk (Kd.R_below (aR HO366) hb); replace HO371 := Aside0.mk (Kd.R_below (aR HO371) hb); have BK373 := Aside0.mk (hbox); have GW373 := Aside0.mk ((by rw [hg]; exact (below_size (bB HB)) : w.heap.size ≤ gb373)); have GE373 := Aside0.mk ((by rw [hg]; exact (below_size (bB HB)) : w.heap.size ≤ gb373)); replace HB := Aside0.mk (below_step (bB HB) hb); have NB326_373 := Aside0.mk ((by rw [hg]; exact Nat.ne_of_lt (blk_lt (g := gb326) (o := .cells #[.slice Ao187 t322.length co187] 34 (0, 0)) (kB BK326)) : gb326 ≠ gb373)); have NB373_326 := Aside0.mk ((by rw [hg]; exact Nat.ne_of_gt (blk_lt (g := gb326) (o := .cells #[.slice Ao187 t322.length co187] 34 (0, 0)) (kB BK326)) : gb373 ≠ gb326)); replace BK326 := Aside0.mk (blk_below (g := gb326) (o := .cells #[.slice Ao187 t322.length co187] 34 (0, 0)) (kB BK326) hb); have NB331_373 := Aside0.mk ((by rw [hg]; exact Nat.ne_of_lt (blk_lt (g := gb331) (o := .cells #[.slice Ao191 t327.length co191] 34 (0, 0)) (kB BK331)) : gb331 ≠ gb373)); have NB373_331 := Aside0.mk ((by rw [hg]; exact Nat.ne_of_gt (blk_lt (g := gb331) (o := .cells #[.slice Ao191 t327.length co191] 34 (0, 0)) (kB BK331)) : gb373 ≠ gb331)); replace BK331 := Aside0.mk (blk_below (g := gb331) (o := .cells #[.slice Ao191 t327.length co191] 34 (0, 0)) (kB BK331) hb); have NB368_373 := Aside0.mk ((by rw [hg]; exact Nat.ne_of_lt (blk_lt (g := gb368) (o := .cells #[.slice Ao197 t364.length co197] 34 (0, 0)) (kB BK368)) : gb368 ≠ gb373)); have NB373_368 := Aside0.mk ((by rw [hg]; exact Nat.ne_of_gt (blk_lt (g := gb368) (o := .cells #[.slice Ao197 t364.length co197] 34 (0, 0)) (kB BK368)) : gb373 ≠ gb368)); replace BK368 := Aside0.mk (blk_below (g := gb368) (o := .cells #[.slice Ao197 t364.length co197] 34 (0, 0)) (kB BK368) hb); clear hb hbox hg; obtain ⟨Ao203, co203, eo203⟩ := Kd.R_slice HO371.out; subst eo203; have hnb204 := NB373_326.out; have hnc204 := NB326_373.out; have hnb205 := NB373_331.out; have hnc205 := NB331_373.out; have hnb206 := NB373_368.out; have hnc206 := NB368_373.out; have hcz207_0 : w202.cell? ⟨gb373, 0, none⟩ = some (.slice none 0 0) := (blk_cell BK373.out 0).trans rfl; have hfz207_0 := blk_frozen BK373.out 0; have hcz208_0 : w202.cell? ⟨gb368, 0, none⟩ = some (.slice Ao197 t364.length co197) := (blk_cell BK368.out 0).trans rfl; have hfz208_0 := blk_frozen BK368.out 0) | ((with_reducible refine gate_callee (f := 19) rfl ?_); refine goesL_ (some 110) rfl rfl Try.func19 (by kernel_rfl) rfl #[.agg #[.slice Ao197 t364.length co197], .int .i64 t367] rfl (by (try simp only [List.map_toArray, List.map_cons, List.map_nil]); first | done | rfl | (simp only [List.length_drop, List.length_take]; rfl)) ?_; (with_reducible refine (spec_PutFilter.calls k _ _ t364 t367 t374 t377 _ ?side1 ?side2 A122.out).mono ?_); (case side1 => refine (Kd.R_reads' (e := 4) (base := w.heap.size) (ok := fun k_ => (((True ∧ some k_ ≠ (.slice Ao187 t322.length co187 : Value).ownBlock) ∧ some k_ ≠ (.slice Ao191 t327.length co191 : Value).ownBlock) ∧ some k_ ≠ (.slice Ao203 t369.length co203 : Value).ownBlock)) (n := t364.length) (c := co197) ?_).2.2; exact (by (with_reducible repeat (first | apply Kd.R_alloc | apply Kd.R_drewN | apply Kd.R_drew)); exact (Kd.R_mono (Kd.R_far (p := ⟨gb373, 0, none⟩) (Kd.R_types HO366.out BK373.out (by decide)) (fun _ hk => hk.2) (.slice Ao203 t369.length co203)) (fun _ h_ => h_.1)))); (case side2 => exact (Kd.R_reads' HO366.out).2.1); rintro e w209 ⟨v375, rfl, ho0, hb⟩; refine ⟨_, rfl, ?_⟩; replace HO321 := Aside0.mk (Kd.R_below (by (with_reducible repeat (first | apply Kd.R_alloc | apply Kd.R_drewN | apply Kd.R_drew)); exact (Kd.R_mono (Kd.R_far (p := ⟨gb373, 0, none⟩) (Kd.R_types HO321.out BK373.out (by decide)) (fun _ hk => hk.2) (.slice Ao203 t369.length co203)) (fun _ h_ => h_.1))) hb); have HO376 := Aside0.mk (Kd.R_lower (Kd.R_new' (Kd.R_new' (Kd.R_new' (Kd.R_new' ho0 (Kd.R_lt (by (with_reducible repeat (first | apply Kd.R_alloc | apply Kd.R_drewN | apply Kd.R_drew)); exact (Kd.R_mono (Kd.R_far (p := ⟨gb373, 0, none⟩) (Kd.R_types HO324.out BK373.out (by decide)) (fun _ hk => hk.2) (.slice Ao203 t369.length co203)) (fun _ h_ => h_.1))))) (Kd.R_lt (by (with_reducible repeat (first | apply Kd.R_alloc | apply Kd.R_drewN | apply Kd.R_drew)); exact (Kd.R_mono (Kd.R_far (p := ⟨gb373, 0, none⟩) (Kd.R_types HO329.out BK373.out (by decide)) (fun _ hk => hk.2) (.slice Ao203 t369.length co203)) (fun _ h_ => h_.1))))) (Kd.R_lt (by (with_reducible repeat (first | apply Kd.R_alloc | apply Kd.R_drewN | apply Kd.R_drew)); exact (Kd.R_mono (Kd.R_far (p := ⟨gb373, 0, none⟩) (Kd.R_types HO366.out BK373.out (by decide)) (fun _ hk => hk.2) (.slice Ao203 t369.length co203)) (fun _ h_ => h_.1))))) (Kd.R_lt (by (with_reducible repeat (first | apply Kd.R_alloc | apply Kd.R_drewN | apply Kd.R_drew)); exact (Kd.R_mono (Kd.R_far (p := ⟨gb373, 0, none⟩) (Kd.R_types HO371.out BK373.out (by decide)) (fun _ hk => hk.2) (.slice Ao203 t369.length co203)) (fun _ h_ => h_.1))))) (below_size (bB HB))); replace HO324 := Aside0.mk (Kd.R_elder' (by (with_reducible repeat (first | apply Kd.R_alloc | apply Kd.R_drewN | apply Kd.R_drew)); exact (Kd.R_mono (Kd.R_far (p := ⟨gb373, 0, none⟩) (Kd.R_types HO324.out BK373.out (by decide)) (fun _ hk => hk.2) (.slice Ao203 t369.length co203)) (fun _ h_ => h_.1))) (Kd.R_base ho0) hb); replace HO329 := Aside0.mk (Kd.R_elder' (by (with_reducible repeat (first | apply Kd.R_alloc | apply Kd.R_drewN | apply Kd.R_drew)); exact (Kd.R_mono (Kd.R_far (p := ⟨gb373, 0, none⟩) (Kd.R_types HO329.out BK373.out (by decide)) (fun _ hk => hk.2) (.slice Ao203 t369.length co203)) (fun _ h_ => h_.1))) (Kd.R_base ho0) hb); replace HO366 := Aside0.mk (Kd.R_elder' (by (with_reducible repeat (first | apply Kd.R_alloc | apply Kd.R_drewN | apply Kd.R_drew)); exact (Kd.R_mono (Kd.R_far (p := ⟨gb373, 0, none⟩) (Kd.R_types HO366.out BK373.out (by decide)) (fun _ hk => hk.2) (.slice Ao203 t369.length co203)) (fun _ h_ => h_.1))) (Kd.R_base ho0) hb); replace HO371 := Aside0.mk (Kd.R_elder' (by (with_reducible repeat (first | apply Kd.R_alloc | apply Kd.R_drewN | apply Kd.R_drew)); exact (Kd.R_mono (Kd.R_far (p := ⟨gb373, 0, none⟩) (Kd.R_types HO371.out BK373.out (by decide)) (fun _ hk => hk.2) (.slice Ao203 t369.length co203)) (fun _ h_ => h_.1))) (Kd.R_base ho0) hb); replace BK326 := Aside0.mk (blk_below (g := gb326) (o := .cells #[.slice Ao187 t322.length co187] 34 (0, 0)) (by (with_reducible repeat (first | refine blk_drewN ?_ _ | refine blk_drew ?_ | refine blk_alloc ?_ _)); refine blk_far ?_ NB326_373.out _; (with_reducible repeat (first | refine blk_drewN ?_ _ | refine blk_drew ?_ | refine blk_alloc ?_ _)); exact BK326.out) hb); replace BK331 := Aside0.mk (blk_below (g := gb331) (o := .cells #[.slice Ao191 t327.length co191] 34 (0, 0)) (by (with_reducible repeat (first | refine blk_drewN ?_ _ | refine blk_drew ?_ | refine blk_alloc ?_ _)); refine blk_far ?_ NB331_373.out _; (with_reducible repeat (first | refine blk_drewN ?_ _ | refine blk_drew ?_ | refine blk_alloc ?_ _)); exact BK331.out) hb); replace BK368 := Aside0.mk (blk_below (g := gb368) (o := .cells #[.slice Ao197 t364.length co197] 34 (0, 0)) (by (with_reducible repeat (first | refine blk_drewN ?_ _ | refine blk_drew ?_ | refine blk_alloc ?_ _)); refine blk_far ?_ NB368_373.out _; (with_reducible repeat (first | refine blk_drewN ?_ _ | refine blk_drew ?_ | refine blk_alloc ?_ _)); exact BK368.out) hb); replace BK373 := Aside0.mk (blk_below (g := gb373) (o := .cells #[.slice Ao203 t369.length co203] 34 (0, 0)) (by (with_reducible repeat (first | refine blk_drewN ?_ _ | refine blk_drew ?_ | refine blk_alloc ?_ _)); refine blk_put (cs := #[.slice none 0 0]) ?_ 0 _ rfl; (with_reducible repeat (first | refine blk_drewN ?_ _ | refine blk_drew ?_ | refine blk_alloc ?_ _)); exact BK373.out) hb); replace HB := Aside0.mk (below_step (bB HB) hb); (try clear hb); (try clear hb2); (try clear hk); (try clear hi); (try clear ho0)) | ((with_reducible refine gate_dst (N := 20) rfl ?_); (try (refine gate_guard (by rfl) ?_; dsimp only)); refine box_event ?hg (N := 20) ?hd (cs := #[.slice none 0 0]) (t := 34) ?hr ?_; (case hd => rfl); (case hg => rfl); (case hr => first | (go_simp; done) | (go_simp; rfl)); intro gb378 hg w210 hbox hb; replace HO321 := Aside0.mk (Kd.R_below (aR HO321) hb); replace HO324 := Aside0.mk (Kd.R_below (aR HO324) hb); replace HO329 := Aside0.mk (Kd.R_below (aR HO329) hb); replace HO366 := Aside0.mk (Kd.R_below (aR HO366) hb); replace HO371 := Aside0.mk (Kd.R_below (aR HO371) hb); replace HO376 := Aside0.mk (Kd.R_below (aR HO376) hb); have BK378 := Aside0.mk (hbox); have GW378 := Aside0.mk ((by rw [hg]; exact (below_size (bB HB)) : w.heap.size ≤ gb378)); have GE378 := Aside0.mk ((by rw [hg]; exact (below_size (bB HB)) : w.heap.size ≤ gb378)); replace HB := Aside0.mk (below_step (bB HB) hb); have NB326_378 := Aside0.mk ((by rw [hg]; exact Nat.ne_of_lt (blk_lt (g := gb326) (o := .cells #[.slice Ao187 t322.length co187] 34 (0, 0)) (kB BK326)) : gb326 ≠ gb378)); have NB378_326 := Aside0.mk ((by rw [hg]; exact Nat.ne_of_gt (blk_lt (g := gb326) (o := .cells #[.slice Ao187 t322.length co187] 34 (0, 0)) (kB BK326)) : gb378 ≠ gb326)); replace BK326 := Aside0.mk (blk_below (g := gb326) (o := .cells #[.slice Ao187 t322.length co187] 34 (0, 0)) (kB BK326) hb); have NB331_378 := Aside0.mk ((by rw [hg]; exact Nat.ne_of_lt (blk_lt (g := gb331) (o := .cells #[.slice Ao191 t327.length co191] 34 (0, 0)) (kB BK331)) : gb331 ≠ gb378)); have NB378_331 := Aside0.mk ((by rw [hg]; exact Nat.ne_of_gt (blk_lt (g := gb331) (o := .cells #[.slice Ao191 t327.length co191] 34 (0, 0)) (kB BK331)) : gb378 ≠ gb331)); replace BK331 := Aside0.mk (blk_below (g := gb331) (o := .cells #[.slice Ao191 t327.length co191] 34 (0, 0)) (kB BK331) hb); have NB368_378 := Aside0.mk ((by rw [hg]; exact Nat.ne_of_lt (blk_lt (g := gb368) (o := .cells #[.slice Ao197 t364.length co197] 34 (0, 0)) (kB BK368)) : gb368 ≠ gb378)); have NB378_368 := Aside0.mk ((by rw [hg]; exact Nat.ne_of_gt (blk_lt (g := gb368) (o := .cells #[.slice Ao197 t364.length co197] 34 (0, 0)) (kB BK368)) : gb378 ≠ gb368)); replace BK368 := Aside0.mk (blk_below (g := gb368) (o := .cells #[.slice Ao197 t364.length co197] 34 (0, 0)) (kB BK368) hb); have NB373_378 := Aside0.mk ((by rw [hg]; exact Nat.ne_of_lt (blk_lt (g := gb373) (o := .cells #[.slice Ao203 t369.length co203] 34 (0, 0)) (kB BK373)) : gb373 ≠ gb378)); have NB378_373 := Aside0.mk ((by rw [hg]; exact Nat.ne_of_gt (blk_lt (g := gb373) (o := .cells #[.slice Ao203 t369.length co203] 34 (0, 0)) (kB BK373)) : gb378 ≠ gb373)); replace BK373 := Aside0.mk (blk_below (g := gb373) (o := .cells #[.slice Ao203 t369.length co203] 34 (0, 0)) (kB BK373) hb); clear hb hbox hg; obtain ⟨Ao211, co211, eo211⟩ := Kd.R_slice HO376.out; subst eo211; have hnb212 := NB378_326.out; have hnc212 := NB326_378.out; have hnb213 := NB378_331.out; have hnc213 := NB331_378.out; have hnb214 := NB378_368.out; have hnc214 := NB368_378.out; have hnb215 := NB378_373.out; have hnc215 := NB373_378.out; have hcz216_0 : w210.cell? ⟨gb378, 0, none⟩ = some (.slice none 0 0) := (blk_cell BK378.out 0).trans rfl; have hfz216_0 := blk_frozen BK378.out 0; have hcz217_0 : w210.cell? ⟨gb368, 0, none⟩ = some (.slice Ao197 t364.length co197) := (blk_cell BK368.out 0).trans rfl; have hfz217_0 := blk_frozen BK368.out 0) | ((with_reducible refine gate_callee (f := 17) rfl ?_); refine goesL_ (some 116) rfl rfl Try.func17 (by kernel_rfl) rfl #[.agg #[.slice Ao197 t364.length co197], .int .i64 t367] rfl (by (try simp only [List.map_toArray, List.map_cons, List.map_nil]); first | done | rfl | (simp only [List.length_drop, List.length_take]; rfl)) ?_; (with_reducible refine (impl_MayHave.calls k _ _ t364 t367 t379 t380 _ ?side1 ?side2 A123.out).mono ?_); (case side1 => refine (Kd.R_reads' (e := 4) (base := w.heap.size) (ok := fun k_ => ((((True ∧ some k_ ≠ (.slice Ao187 t322.length co187 : Value).ownBlock) ∧ some k_ ≠ (.slice Ao191 t327.length co191 : Value).ownBlock) ∧ some k_ ≠ (.slice Ao203 t369.length co203 : Value).ownBlock) ∧ some k_ ≠ (.slice Ao211 t374.length co211 : Value).ownBlock)) (n := t364.length) (c := co197) ?_).2.2; exact (by (with_reducible repeat (first | apply Kd.R_alloc | apply Kd.R_drewN | apply Kd.R_drew)); exact (Kd.R_mono (Kd.R_far (p := ⟨gb378, 0, none⟩) (Kd.R_types HO366.out BK378.out (by decide)) (fun _ hk => hk.2) (.slice Ao211 t374.length co211)) (fun _ h_ => h_.1)))); (case side2 => exact (Kd.R_reads' HO366.out).2.1); rintro e w218 ⟨rfl, hb⟩; refine ⟨_, rfl, ?_⟩; replace HO321 := Aside0.mk (Kd.R_below (by (with_reducible repeat (first | apply Kd.R_alloc | apply Kd.R_drewN | apply Kd.R_drew)); exact (Kd.R_mono (Kd.R_far (p := ⟨gb378, 0, none⟩) (Kd.R_types HO321.out BK378.out (by decide)) (fun _ hk => hk.2) (.slice Ao211 t374.length co211)) (fun _ h_ => h_.1))) hb); replace HO324 := Aside0.mk (Kd.R_below (by (with_reducible repeat (first | apply Kd.R_alloc | apply Kd.R_drewN | apply Kd.R_drew)); exact (Kd.R_mono (Kd.R_far (p := ⟨gb378, 0, none⟩) (Kd.R_types HO324.out BK378.out (by decide)) (fun _ hk => hk.2) (.slice Ao211 t374.length co211)) (fun _ h_ => h_.1))) hb); replace HO329 := Aside0.mk (Kd.R_below (by (with_reducible repeat (first | apply Kd.R_alloc | apply Kd.R_drewN | apply Kd.R_drew)); exact (Kd.R_mono (Kd.R_far (p := ⟨gb378, 0, none⟩) (Kd.R_types HO329.out BK378.out (by decide)) (fun _ hk => hk.2) (.slice Ao211 t374.length co211)) (fun _ h_ => h_.1))) hb); replace HO366 := Aside0.mk (Kd.R_below (by (with_reducible repeat (first | apply Kd.R_alloc | apply Kd.R_drewN | apply Kd.R_drew)); exact (Kd.R_mono (Kd.R_far (p := ⟨gb378, 0, none⟩) (Kd.R_types HO366.out BK378.out (by decide)) (fun _ hk => hk.2) (.slice Ao211 t374.length co211)) (fun _ h_ => h_.1))) hb); replace HO371 := Aside0.mk (Kd.R_below (by (with_reducible repeat (first | apply Kd.R_alloc | apply Kd.R_drewN | apply Kd.R_drew)); exact (Kd.R_mono (Kd.R_far (p := ⟨gb378, 0, none⟩) (Kd.R_types HO371.out BK378.out (by decide)) (fun _ hk => hk.2) (.slice Ao211 t374.length co211)) (fun _ h_ => h_.1))) hb); replace HO376 := Aside0.mk (Kd.R_below (by (with_reducible repeat (first | apply Kd.R_alloc | apply Kd.R_drewN | apply Kd.R_drew)); exact (Kd.R_mono (Kd.R_far (p := ⟨gb378, 0, none⟩) (Kd.R_types HO376.out BK378.out (by decide)) (fun _ hk => hk.2) (.slice Ao211 t374.length co211)) (fun _ h_ => h_.1))) hb); replace BK326 := Aside0.mk (blk_below (g := gb326) (o := .cells #[.slice Ao187 t322.length co187] 34 (0, 0)) (by (with_reducible repeat (first | refine blk_drewN ?_ _ | refine blk_drew ?_ | refine blk_alloc ?_ _)); refine blk_far ?_ NB326_378.out _; (with_reducible repeat (first | refine blk_drewN ?_ _ | refine blk_drew ?_ | refine blk_alloc ?_ _)); exact BK326.out) hb); replace BK331 := Aside0.mk (blk_below (g := gb331) (o := .cells #[.slice Ao191 t327.length co191] 34 (0, 0)) (by (with_reducible repeat (first | refine blk_drewN ?_ _ | refine blk_drew ?_ | refine blk_alloc ?_ _)); refine blk_far ?_ NB331_378.out _; (with_reducible repeat (first | refine blk_drewN ?_ _ | refine blk_drew ?_ | refine blk_alloc ?_ _)); exact BK331.out) hb); replace BK368 := Aside0.mk (blk_below (g := gb368) (o := .cells #[.slice Ao197 t364.length co197] 34 (0, 0)) (by (with_reducible repeat (first | refine blk_drewN ?_ _ | refine blk_drew ?_ | refine blk_alloc ?_ _)); refine blk_far ?_ NB368_378.out _; (with_reducible repeat (first | refine blk_drewN ?_ _ | refine blk_drew ?_ | refine blk_alloc ?_ _)); exact BK368.out) hb); replace BK373 := Aside0.mk (blk_below (g := gb373) (o := .cells #[.slice Ao203 t369.length co203] 34 (0, 0)) (by (with_reducible repeat (first | refine blk_drewN ?_ _ | refine blk_drew ?_ | refine blk_alloc ?_ _)); refine blk_far ?_ NB373_378.out _; (with_reducible repeat (first | refine blk_drewN ?_ _ | refine blk_drew ?_ | refine blk_alloc ?_ _)); exact BK373.out) hb); replace BK378 := Aside0.mk (blk_below (g := gb378) (o := .cells #[.slice Ao211 t374.length co211] 34 (0, 0)) (by (with_reducible repeat (first | refine blk_drewN ?_ _ | refine blk_drew ?_ | refine blk_alloc ?_ _)); refine blk_put (cs := #[.slice none 0 0]) ?_ 0 _ rfl; (with_reducible repeat (first | refine blk_drewN ?_ _ | refine blk_drew ?_ | refine blk_alloc ?_ _)); exact BK378.out) hb); replace HB := Aside0.mk (below_step (bB HB) hb); (try clear hb); (try clear hb2); (try clear hk); (try clear hi); have hcz219_0 : w218.cell? ⟨gb368, 0, none⟩ = some (.slice Ao197 t364.length co197) := (blk_cell BK368.out 0).trans rfl; have hfz219_0 := blk_frozen BK368.out 0) | ((with_reducible refine gate_callee (f := 15) rfl ?_); refine goesL_ (some 122) rfl rfl Try.func15 (by kernel_rfl) rfl #[.agg #[.slice Ao197 t364.length co197], .int .i64 t367] rfl (by (try simp only [List.map_toArray, List.map_cons, List.map_nil]); first | done | rfl | (simp only [List.length_drop, List.length_take]; rfl)) ?_; (with_reducible refine (spec_MayHave.calls k _ _ t364 t367 t381 t382 _ ?side1 ?side2 A124.out).mono ?_); (case side1 => repeat (first | exact (Kd.R_reads' HO366.out).2.2 | (with_reducible refine Kd.C_alloc ?_ _) | (with_reducible refine Kd.C_drewN ?_ _) | (with_reducible refine Kd.C_drew ?_))); (case side2 => exact (Kd.R_reads' HO366.out).2.1); rintro e w220 ⟨rfl, hb⟩; refine ⟨_, rfl, ?_⟩; replace HO321 := Aside0.mk (Kd.R_below (aR HO321) hb); replace HO324 := Aside0.mk (Kd.R_below (aR HO324) hb); replace HO329 := Aside0.mk (Kd.R_below (aR HO329) hb); replace HO366 := Aside0.mk (Kd.R_below (aR HO366) hb); replace HO371 := Aside0.mk (Kd.R_below (aR HO371) hb); replace HO376 := Aside0.mk (Kd.R_below (aR HO376) hb); replace BK326 := Aside0.mk (blk_below (g := gb326) (o := .cells #[.slice Ao187 t322.length co187] 34 (0, 0)) (kB BK326) hb); replace BK331 := Aside0.mk (blk_below (g := gb331) (o := .cells #[.slice Ao191 t327.length co191] 34 (0, 0)) (kB BK331) hb); replace BK368 := Aside0.mk (blk_below (g := gb368) (o := .cells #[.slice Ao197 t364.length co197] 34 (0, 0)) (kB BK368) hb); replace BK373 := Aside0.mk (blk_below (g := gb373) (o := .cells #[.slice Ao203 t369.length co203] 34 (0, 0)) (kB BK373) hb); replace BK378 := Aside0.mk (blk_below (g := gb378) (o := .cells #[.slice Ao211 t374.length co211] 34 (0, 0)) (kB BK378) hb); replace HB := Aside0.mk (below_step (bB HB) hb); (try clear hb); (try clear hb2); (try clear hk); (try clear hi)))
           replace HO321 := Aside0.mk (Kd.R_drew HO321.out)
           replace HO324 := Aside0.mk (Kd.R_drew HO324.out)
           replace HO329 := Aside0.mk (Kd.R_drew HO329.out)
           replace HO366 := Aside0.mk (Kd.R_drew HO366.out)
           replace HO371 := Aside0.mk (Kd.R_drew HO371.out)
           replace HO376 := Aside0.mk (Kd.R_drew HO376.out)
           replace BK326 := Aside0.mk (blk_drew BK326.out)
           replace BK331 := Aside0.mk (blk_drew BK331.out)
           replace BK368 := Aside0.mk (blk_drew BK368.out)
           replace BK373 := Aside0.mk (blk_drew BK373.out)
           replace BK378 := Aside0.mk (blk_drew BK378.out)
           replace HB := Aside0.mk (below_drew1 HB.out)
           refine start_ (n := 28) (S := fun w' => w'.cell? ⟨gb373, 0, none⟩ = some (.slice Ao203 t369.length co203) ∧ w'.cell? ⟨gb378, 0, none⟩ = some (.slice Ao211 t374.length co211) ∧ w'.cell? ⟨gb368, 0, none⟩ = some (.slice Ao197 t364.length co197)) (ds := []) #[false, false, false, false, false, false, false, false, false, false, false, false, false, false, false, false, false, false, false, false, false, false, false, false, false, false, false, false] (by kernel_rfl) rfl rfl ⟨(blk_cell BK373.out 0).trans rfl, (blk_cell BK378.out 0).trans rfl, (blk_cell BK368.out 0).trans rfl⟩ (fun hHeld => ?_); refine with_tabW laws_FnFilter.tab24 laws_FnFilter.bits24 (fun HT_ HW_ => ?_)
           generalize w220.drew = w221 at HO321 HO324 HO329 HO366 HO371 HO376 BK326 BK331 BK368 BK373 BK378 HB hHeld ⊢
           refine pure_ (i := 0) (N := some 125) (v := ?_) (a' := ?_) #[true, false, false, false, false, false, false, false, false, false, false, false, false, false, false, false, false, false, false, false, false, false, false, false, false, false, false, false] rfl rfl (any_of HT_.out (by kernel_rfl)) (fun _ _ _ h => h) (Or.inl ⟨by rfl, ?_⟩) ?_ ?_
           rotate_left
           ·intro w'
            go_simp
            with_reducible rfl
           rotate_left
           ·simp only [Act.put, List.setIfInBounds_toArray, List.set_cons_zero, List.set_cons_succ, i64_w, i32_w]
            rfl
           refine pure_ (i := 1) (N := some 126) (v := ?_) (a' := ?_) #[true, true, false, false, false, false, false, false, false, false, false, false, false, false, false, false, false, false, false, false, false, false, false, false, false, false, false, false] rfl rfl (any_of HT_.out (by kernel_rfl)) (fun _ _ _ h => h) (Or.inl ⟨by rfl, ?_⟩) ?_ ?_
           rotate_left
           ·intro w'
            go_simp
            with_reducible rfl
           rotate_left
           ·simp only [Act.put, List.setIfInBounds_toArray, List.set_cons_zero, List.set_cons_succ, i64_w, i32_w]
            rfl
           refine pure_ (i := 2) (N := some 127) (v := ?_) (a' := ?_) #[true, true, true, false, false, false, false, false, false, false, false, false, false, false, false, false, false, false, false, false, false, false, false, false, false, false, false, false] rfl rfl (any_of HT_.out (by kernel_rfl)) (fun _ _ _ h => h) (Or.inl ⟨by rfl, ?_⟩) ?_ ?_
           rotate_left
           ·intro w'
            go_simp
            with_reducible rfl
           rotate_left
           ·simp only [Act.put, List.setIfInBounds_toArray, List.set_cons_zero, List.set_cons_succ, i64_w, i32_w]
            rfl
           refine pure_ (i := 3) (N := some 128) (v := ?_) (a' := ?_) #[true, true, true, true, false, false, false, false, false, false, false, false, false, false, false, false, false, false, false, false, false, false, false, false, false, false, false, false] rfl rfl (any_of HT_.out (by kernel_rfl)) (fun _ _ _ h => h) (Or.inl ⟨by rfl, ?_⟩) ?_ ?_
           rotate_left
           ·intro w'
            go_simp
            with_reducible rfl
           rotate_left
           ·simp only [Act.put, List.setIfInBounds_toArray, List.set_cons_zero, List.set_cons_succ, i64_w, i32_w]
            rfl
           refine pure_ (i := 4) (N := some 129) (v := ?_) (a' := ?_) #[true, true, true, true, true, false, false, false, false, false, false, false, false, false, false, false, false, false, false, false, false, false, false, false, false, false, false, false] rfl rfl (any_of HT_.out (by kernel_rfl)) (fun _ _ _ h => h) (Or.inl ⟨by rfl, ?_⟩) ?_ ?_
           rotate_left
           ·intro w'
            go_simp
            with_reducible rfl
           rotate_left
           ·simp only [Act.put, List.setIfInBounds_toArray, List.set_cons_zero, List.set_cons_succ, i64_w, i32_w]
            rfl
           refine pure_ (i := 6) (N := some 131) (v := ?_) (a' := ?_) #[true, true, true, true, true, false, true, false, false, false, false, false, false, false, false, false, false, false, false, false, false, false, false, false, false, false, false, false] rfl rfl (any_of HT_.out (by kernel_rfl)) (fun _ _ _ h => h) (Or.inl ⟨by rfl, ?_⟩) ?_ ?_
           rotate_left
           ·intro w'
            go_simp
            with_reducible rfl
           rotate_left
           ·simp only [Act.put, List.setIfInBounds_toArray, List.set_cons_zero, List.set_cons_succ, i64_w, i32_w]
            rfl
           refine take_ (i := 5) (N := some 130) (v := ?_) (a' := ?_) #[true, true, true, true, true, true, true, false, false, false, false, false, false, false, false, false, false, false, false, false, false, false, false, false, false, false, false, false] rfl rfl (take_ofW HT_.out HW_.out (by kernel_rfl)) (fun _ _ _ h => h) (Or.inl ⟨by rfl, ?_⟩) hHeld ?_ ?_
           rotate_left
           ·rintro w' ⟨s0, s1, s2⟩
            go_simp
            with_reducible rfl
           rotate_left
           ·simp only [Act.put, List.setIfInBounds_toArray, List.set_cons_zero, List.set_cons_succ, i64_w, i32_w]
            rfl
           refine take_ (i := 7) (N := some 132) (v := ?_) (a' := ?_) #[true, true, true, true, true, true, true, true, false, false, false, false, false, false, false, false, false, false, false, false, false, false, false, false, false, false, false, false] rfl rfl (take_ofW HT_.out HW_.out (by kernel_rfl)) (fun _ _ _ h => h) (Or.inl ⟨by rfl, ?_⟩) hHeld ?_ ?_
           rotate_left
           ·rintro w' ⟨s0, s1, s2⟩
            go_simp
            with_reducible rfl
           rotate_left
           ·simp only [Act.put, List.setIfInBounds_toArray, List.set_cons_zero, List.set_cons_succ, i64_w, i32_w]
            rfl
           refine one_ (i := 8) (N := some 133) #[true, true, true, true, true, true, true, true, true, false, false, false, false, false, false, false, false, false, false, false, false, false, false, false, false, false, false, false] rfl rfl (one_of HT_.out (by kernel_rfl)) (by decide) (fun K hK => ?_)
           refine goes_ Try.func27 (by kernel_rfl) rfl #[.slice Ao203 t369.length co203, .slice Ao211 t374.length co211] (by rfl) rfl rfl (by (try simp only [List.map_toArray, List.map_cons, List.map_nil]); first | done | rfl | (simp only [List.length_drop, List.length_take]; rfl)) ?_
           with_reducible refine (laws_sameBools.calls k _ _ t369 _ _ t374 true _ ?side1 ?side2 ?side3 ?side4 A126.out).mono ?_
           (case side1 => repeat (first | exact (Kd.R_reads' HO371.out).2.2 | (with_reducible refine Kd.C_alloc ?_ _) | (with_reducible refine Kd.C_drewN ?_ _) | (with_reducible refine Kd.C_drew ?_)))
           (case side2 => exact (Kd.R_reads' HO371.out).2.1)
           (case side3 => repeat (first | exact (Kd.R_reads' HO376.out).2.2 | (with_reducible refine Kd.C_alloc ?_ _) | (with_reducible refine Kd.C_drewN ?_ _) | (with_reducible refine Kd.C_drew ?_)))
           (case side4 => exact (Kd.R_reads' HO376.out).2.1)
           rintro e w' ⟨rfl, ⟨nd, rfl⟩⟩
           refine ⟨_, rfl, ?_⟩
           refine hK.out _ _ ⟨(blk_cell BK373.out 0).trans rfl, (blk_cell BK378.out 0).trans rfl, (blk_cell BK368.out 0).trans rfl⟩ (fun hHeld => ?_)
           clear hK K
           refine norm_ (a' := ?_) ?_ ?_
           rotate_left
           ·show Act.put _ (some 133) _ = _
            simp only [Act.put, List.setIfInBounds_toArray, List.set_cons_zero, List.set_cons_succ, i64_w, i32_w]
            rfl
           refine pure_ (i := 9) (N := some 134) (v := ?_) (a' := ?_) #[true, true, true, true, true, true, true, true, true, true, false, false, false, false, false, false, false, false, false, false, false, false, false, false, false, false, false, false] rfl rfl (any_of HT_.out (by kernel_rfl)) (fun _ _ _ h => h) (Or.inl ⟨by rfl, ?_⟩) ?_ ?_
           rotate_left
           ·intro w'
            go_simp
            with_reducible rfl
           rotate_left
           ·simp only [Act.put, List.setIfInBounds_toArray, List.set_cons_zero, List.set_cons_succ, i64_w, i32_w]
            rfl
           refine pure_ (i := 10) (N := some 135) (v := ?_) (a' := ?_) #[true, true, true, true, true, true, true, true, true, true, true, false, false, false, false, false, false, false, false, false, false, false, false, false, false, false, false, false] rfl rfl (any_of HT_.out (by kernel_rfl)) (fun _ _ _ h => h) (Or.inl ⟨by rfl, ?_⟩) ?_ ?_
           rotate_left
           ·intro w'
            go_simp
            with_reducible rfl
           rotate_left
           ·simp only [Act.put, List.setIfInBounds_toArray, List.set_cons_zero, List.set_cons_succ, i64_w, i32_w]
            rfl
           refine pure_ (i := 11) (N := some 136) (v := ?_) (a' := ?_) #[true, true, true, true, true, true, true, true, true, true, true, true, false, false, false, false, false, false, false, false, false, false, false, false, false, false, false, false] rfl rfl (any_of HT_.out (by kernel_rfl)) (fun _ _ _ h => h) (Or.inl ⟨by rfl, ?_⟩) ?_ ?_
           rotate_left
           ·intro w'
            go_simp
            with_reducible rfl
           rotate_left
           ·simp only [Act.put, List.setIfInBounds_toArray, List.set_cons_zero, List.set_cons_succ, i64_w, i32_w]
            rfl
           refine pure_ (i := 12) (N := some 137) (v := ?_) (a' := ?_) #[true, true, true, true, true, true, true, true, true, true, true, true, true, false, false, false, false, false, false, false, false, false, false, false, false, false, false, false] rfl rfl (any_of HT_.out (by kernel_rfl)) (fun _ _ _ h => h) (Or.inl ⟨by rfl, ?_⟩) ?_ ?_
           rotate_left
           ·intro w'
            go_simp
            with_reducible rfl
           rotate_left
           ·simp only [Act.put, List.setIfInBounds_toArray, List.set_cons_zero, List.set_cons_succ, i64_w, i32_w]
            rfl
           refine pure_ (i := 13) (N := some 138) (v := ?_) (a' := ?_) #[true, true, true, true, true, true, true, true, true, true, true, true, true, true, false, false, false, false, false, false, false, false, false, false, false, false, false, false] rfl rfl (any_of HT_.out (by kernel_rfl)) (fun _ _ _ h => h) (Or.inl ⟨by rfl, ?_⟩) ?_ ?_
           rotate_left
           ·intro w'
            go_simp
            with_reducible rfl
           rotate_left
           ·simp only [Act.put, List.setIfInBounds_toArray, List.set_cons_zero, List.set_cons_succ, i64_w, i32_w]
            rfl
           refine pure_ (i := 14) (N := some 139) (v := ?_) (a' := ?_) #[true, true, true, true, true, true, true, true, true, true, true, true, true, true, true, false, false, false, false, false, false, false, false, false, false, false, false, false] rfl rfl (any_of HT_.out (by kernel_rfl)) (fun _ _ _ h => h) (Or.inl ⟨by rfl, ?_⟩) ?_ ?_
           rotate_left
           ·intro w'
            go_simp
            with_reducible rfl
           rotate_left
           ·simp only [Act.put, List.setIfInBounds_toArray, List.set_cons_zero, List.set_cons_succ, i64_w, i32_w]
            rfl
           refine pure_ (i := 15) (N := some 140) (v := ?_) (a' := ?_) #[true, true, true, true, true, true, true, true, true, true, true, true, true, true, true, true, false, false, false, false, false, false, false, false, false, false, false, false] rfl rfl (any_of HT_.out (by kernel_rfl)) (fun _ _ _ h => h) (Or.inl ⟨by rfl, ?_⟩) ?_ ?_
           rotate_left
           ·intro w'
            go_simp
            with_reducible rfl
           rotate_left
           ·simp only [Act.put, List.setIfInBounds_toArray, List.set_cons_zero, List.set_cons_succ, i64_w, i32_w]
            rfl
           refine pure_ (i := 16) (N := some 141) (v := ?_) (a' := ?_) #[true, true, true, true, true, true, true, true, true, true, true, true, true, true, true, true, true, false, false, false, false, false, false, false, false, false, false, false] rfl rfl (any_of HT_.out (by kernel_rfl)) (fun _ _ _ h => h) (Or.inl ⟨by rfl, ?_⟩) ?_ ?_
           rotate_left
           ·intro w'
            go_simp
            with_reducible rfl
           rotate_left
           ·simp only [Act.put, List.setIfInBounds_toArray, List.set_cons_zero, List.set_cons_succ, i64_w, i32_w]
            rfl
           refine pure_ (i := 17) (N := some 142) (v := ?_) (a' := ?_) #[true, true, true, true, true, true, true, true, true, true, true, true, true, true, true, true, true, true, false, false, false, false, false, false, false, false, false, false] rfl rfl (any_of HT_.out (by kernel_rfl)) (fun _ _ _ h => h) (Or.inl ⟨by rfl, ?_⟩) ?_ ?_
           rotate_left
           ·intro w'
            go_simp
            with_reducible rfl
           rotate_left
           ·simp only [Act.put, List.setIfInBounds_toArray, List.set_cons_zero, List.set_cons_succ, i64_w, i32_w]
            rfl
           refine pure_ (i := 18) (N := some 143) (v := ?_) (a' := ?_) #[true, true, true, true, true, true, true, true, true, true, true, true, true, true, true, true, true, true, true, false, false, false, false, false, false, false, false, false] rfl rfl (any_of HT_.out (by kernel_rfl)) (fun _ _ _ h => h) (Or.inl ⟨by rfl, ?_⟩) ?_ ?_
           rotate_left
           ·intro w'
            go_simp
            with_reducible rfl
           rotate_left
           ·simp only [Act.put, List.setIfInBounds_toArray, List.set_cons_zero, List.set_cons_succ, i64_w, i32_w]
            rfl
           refine pure_ (i := 19) (N := some 144) (v := ?_) (a' := ?_) #[true, true, true, true, true, true, true, true, true, true, true, true, true, true, true, true, true, true, true, true, false, false, false, false, false, false, false, false] rfl rfl (any_of HT_.out (by kernel_rfl)) (fun _ _ _ h => h) (Or.inl ⟨by rfl, ?_⟩) ?_ ?_
           rotate_left
           ·intro w'
            go_simp
            with_reducible rfl
           rotate_left
           ·simp only [Act.put, List.setIfInBounds_toArray, List.set_cons_zero, List.set_cons_succ, i64_w, i32_w]
            rfl
           refine pure_ (i := 20) (N := some 145) (v := ?_) (a' := ?_) #[true, true, true, true, true, true, true, true, true, true, true, true, true, true, true, true, true, true, true, true, true, false, false, false, false, false, false, false] rfl rfl (any_of HT_.out (by kernel_rfl)) (fun _ _ _ h => h) (Or.inl ⟨by rfl, ?_⟩) ?_ ?_
           rotate_left
           ·intro w'
            go_simp
            with_reducible rfl
           rotate_left
           ·simp only [Act.put, List.setIfInBounds_toArray, List.set_cons_zero, List.set_cons_succ, i64_w, i32_w]
            rfl
           refine pure_ (i := 21) (N := some 146) (v := ?_) (a' := ?_) #[true, true, true, true, true, true, true, true, true, true, true, true, true, true, true, true, true, true, true, true, true, true, false, false, false, false, false, false] rfl rfl (any_of HT_.out (by kernel_rfl)) (fun _ _ _ h => h) (Or.inl ⟨by rfl, ?_⟩) ?_ ?_
           rotate_left
           ·intro w'
            go_simp
            with_reducible rfl
           rotate_left
           ·simp only [Act.put, List.setIfInBounds_toArray, List.set_cons_zero, List.set_cons_succ, i64_w, i32_w]
            rfl
           refine take_ (i := 22) (N := some 147) (v := ?_) (a' := ?_) #[true, true, true, true, true, true, true, true, true, true, true, true, true, true, true, true, true, true, true, true, true, true, true, false, false, false, false, false] rfl rfl (take_ofW HT_.out HW_.out (by kernel_rfl)) (fun _ _ _ h => h) (Or.inl ⟨by rfl, ?_⟩) hHeld ?_ ?_
           rotate_left
           ·rintro w' ⟨s0, s1, s2⟩
            go_simp
            with_reducible rfl
           rotate_left
           ·simp only [Act.put, List.setIfInBounds_toArray, List.set_cons_zero, List.set_cons_succ, i64_w, i32_w]
            rfl
           refine take_ (i := 24) (N := some 149) (v := ?_) (a' := ?_) #[true, true, true, true, true, true, true, true, true, true, true, true, true, true, true, true, true, true, true, true, true, true, true, false, true, false, false, false] rfl rfl (take_ofW HT_.out HW_.out (by kernel_rfl)) (fun _ _ _ h => h) (Or.inl ⟨by rfl, ?_⟩) hHeld ?_ ?_
           rotate_left
           ·rintro w' ⟨s0, s1, s2⟩
            go_simp
            with_reducible rfl
           rotate_left
           ·simp only [Act.put, List.setIfInBounds_toArray, List.set_cons_zero, List.set_cons_succ, i64_w, i32_w]
            rfl
           refine one_ (i := 23) (N := some 148) #[true, true, true, true, true, true, true, true, true, true, true, true, true, true, true, true, true, true, true, true, true, true, true, true, true, false, false, false] rfl rfl (one_of HT_.out (by kernel_rfl)) (by decide) (fun K hK => ?_)
           refine goes_ Try.func29 (by kernel_rfl) rfl #[.agg #[.slice Ao197 t364.length co197]] (by rfl) rfl rfl (by (try simp only [List.map_toArray, List.map_cons, List.map_nil]); first | done | rfl | (simp only [List.length_drop, List.length_take]; rfl)) ?_
           with_reducible refine (impl_GoodFilter.calls _ _ t364 t384 _ ?side1 ?side2 A130.out).mono ?_
           (case side1 => repeat (first | exact (Kd.R_reads' HO366.out).2.2 | (with_reducible refine Kd.C_alloc ?_ _) | (with_reducible refine Kd.C_drewN ?_ _) | (with_reducible refine Kd.C_drew ?_)))
           (case side2 => exact (Kd.R_reads' HO366.out).2.1)
           rintro e w222 ⟨rfl, hb⟩
           refine ⟨_, rfl, ?_⟩
           replace HO321 := Aside0.mk (Kd.R_below (aR HO321) hb)
           replace HO324 := Aside0.mk (Kd.R_below (aR HO324) hb)
           replace HO329 := Aside0.mk (Kd.R_below (aR HO329) hb)
           replace HO366 := Aside0.mk (Kd.R_below (aR HO366) hb)
           replace HO371 := Aside0.mk (Kd.R_below (aR HO371) hb)
           replace HO376 := Aside0.mk (Kd.R_below (aR HO376) hb)
           replace BK326 := Aside0.mk (blk_below (g := gb326) (o := .cells #[.slice Ao187 t322.length co187] 34 (0, 0)) (kB BK326) hb)
           replace BK331 := Aside0.mk (blk_below (g := gb331) (o := .cells #[.slice Ao191 t327.length co191] 34 (0, 0)) (kB BK331) hb)
           replace BK368 := Aside0.mk (blk_below (g := gb368) (o := .cells #[.slice Ao197 t364.length co197] 34 (0, 0)) (kB BK368) hb)
           replace BK373 := Aside0.mk (blk_below (g := gb373) (o := .cells #[.slice Ao203 t369.length co203] 34 (0, 0)) (kB BK373) hb)
           replace BK378 := Aside0.mk (blk_below (g := gb378) (o := .cells #[.slice Ao211 t374.length co211] 34 (0, 0)) (kB BK378) hb)
           replace HB := Aside0.mk (below_step (bB HB) hb)
           (try clear hb);(try clear hb2);(try clear hk);(try clear hi)
           refine hK.out _ _ ⟨(blk_cell BK373.out 0).trans rfl, (blk_cell BK378.out 0).trans rfl, (blk_cell BK368.out 0).trans rfl⟩ (fun hHeld => ?_)
           clear hK K
           refine norm_ (a' := ?_) ?_ ?_
           rotate_left
           ·show Act.put _ (some 148) _ = _
            simp only [Act.put, List.setIfInBounds_toArray, List.set_cons_zero, List.set_cons_succ, i64_w, i32_w]
            rfl
           refine one_ (i := 25) (N := some 150) #[true, true, true, true, true, true, true, true, true, true, true, true, true, true, true, true, true, true, true, true, true, true, true, true, true, true, false, false] rfl rfl (one_of HT_.out (by kernel_rfl)) (by decide) (fun K hK => ?_)
           refine goes_ Try.func31 (by kernel_rfl) rfl #[.agg #[.slice Ao197 t364.length co197]] (by rfl) rfl rfl (by (try simp only [List.map_toArray, List.map_cons, List.map_nil]); first | done | rfl | (simp only [List.length_drop, List.length_take]; rfl)) ?_
           with_reducible refine (spec_GoodFilter.calls _ _ t364 t385 _ ?side1 ?side2 A131.out).mono ?_
           (case side1 => repeat (first | exact (Kd.R_reads' HO366.out).2.2 | (with_reducible refine Kd.C_alloc ?_ _) | (with_reducible refine Kd.C_drewN ?_ _) | (with_reducible refine Kd.C_drew ?_)))
           (case side2 => exact (Kd.R_reads' HO366.out).2.1)
           rintro e w223 ⟨rfl, hb⟩
           refine ⟨_, rfl, ?_⟩
           replace HO321 := Aside0.mk (Kd.R_below (aR HO321) hb)
           replace HO324 := Aside0.mk (Kd.R_below (aR HO324) hb)
           replace HO329 := Aside0.mk (Kd.R_below (aR HO329) hb)
           replace HO366 := Aside0.mk (Kd.R_below (aR HO366) hb)
           replace HO371 := Aside0.mk (Kd.R_below (aR HO371) hb)
           replace HO376 := Aside0.mk (Kd.R_below (aR HO376) hb)
           replace BK326 := Aside0.mk (blk_below (g := gb326) (o := .cells #[.slice Ao187 t322.length co187] 34 (0, 0)) (kB BK326) hb)
           replace BK331 := Aside0.mk (blk_below (g := gb331) (o := .cells #[.slice Ao191 t327.length co191] 34 (0, 0)) (kB BK331) hb)
           replace BK368 := Aside0.mk (blk_below (g := gb368) (o := .cells #[.slice Ao197 t364.length co197] 34 (0, 0)) (kB BK368) hb)
           replace BK373 := Aside0.mk (blk_below (g := gb373) (o := .cells #[.slice Ao203 t369.length co203] 34 (0, 0)) (kB BK373) hb)
           replace BK378 := Aside0.mk (blk_below (g := gb378) (o := .cells #[.slice Ao211 t374.length co211] 34 (0, 0)) (kB BK378) hb)
           replace HB := Aside0.mk (below_step (bB HB) hb)
           (try clear hb);(try clear hb2);(try clear hk);(try clear hi)
           refine hK.out _ _ ⟨(blk_cell BK373.out 0).trans rfl, (blk_cell BK378.out 0).trans rfl, (blk_cell BK368.out 0).trans rfl⟩ (fun hHeld => ?_)
           clear hK K
           refine norm_ (a' := ?_) ?_ ?_
           rotate_left
           ·show Act.put _ (some 150) _ = _
            simp only [Act.put, List.setIfInBounds_toArray, List.set_cons_zero, List.set_cons_succ, i64_w, i32_w]
            rfl
           refine pure_ (i := 26) (N := some 151) (v := ?_) (a' := ?_) #[true, true, true, true, true, true, true, true, true, true, true, true, true, true, true, true, true, true, true, true, true, true, true, true, true, true, true, false] rfl rfl (any_of HT_.out (by kernel_rfl)) (fun _ _ _ h => h) (Or.inl ⟨by rfl, ?_⟩) ?_ ?_
           rotate_left
           ·intro w'
            go_simp
            with_reducible rfl
           rotate_left
           ·simp only [Act.put, List.setIfInBounds_toArray, List.set_cons_zero, List.set_cons_succ, i64_w, i32_w]
            rfl
           refine pure_ (i := 27) (N := some 152) (v := ?_) (a' := ?_) #[true, true, true, true, true, true, true, true, true, true, true, true, true, true, true, true, true, true, true, true, true, true, true, true, true, true, true, true] rfl rfl (any_of HT_.out (by kernel_rfl)) (fun _ _ _ h => h) (Or.inl ⟨by rfl, ?_⟩) ?_ ?_
           rotate_left
           ·intro w'
            go_simp
            with_reducible rfl
           rotate_left
           ·simp only [Act.put, List.setIfInBounds_toArray, List.set_cons_zero, List.set_cons_succ, i64_w, i32_w]
            rfl
           refine done_ (done_of HT_.out (by kernel_rfl)) ?_
           try go_wp2
           go_ret
           exact ⟨by first | rfl | (simp [errW_none, errW_some] <;> rfl) | (simp [*, errW_none, errW_some] <;> rfl), bB HB⟩
      ·replace c127 := Bool.eq_false_iff.mpr c127
       subst c127
       have H1 : (none) = some r := by rw [if_neg (show ¬ (false = true) by decide)] at H; exact H
       clear H
       have H := H1
       clear H1
       exact absurd H (by simp)
   ·replace c9 := Bool.eq_false_iff.mpr c9
    subst c9
    have H1 : (none) = some r := by rw [if_neg (show ¬ (false = true) by decide)] at H; exact H
    clear H
    have H := H1
    clear H1
    exact absurd H (by simp)

/-- THE ONE PURE STATEMENT of laws_FnFilter: yours. -/
def laws_FnFilter.Pure : Prop := ∀ (l0 : List Int) (l1 : List Int), l0.length ≤ maxLen → l0.length * 1 ≤ 140737488351232 → (∀ x ∈ l0, (Lit.int .u8 x).wf = true) → l1.length ≤ maxLen → l1.length * 1 ≤ 140737488351232 → (∀ x ∈ l1, (Lit.int .u8 x).wf = true) → ∃ k, laws_FnFilter.f k l0 l1 = some true
theorem laws_FnFilter.walk (P : laws_FnFilter.Pure) (a0 : Option Addr) (len0 cap0 : Nat) (z0 : List Int) (a1 : Option Addr) (len1 cap1 : Nat) (z1 : List Int) (w : World) (w0 : (a0 = none ∧ len0 = 0 ∧ cap0 = 0 ∧ z0 = []) ∨ ∃ x, a0 = some x ∧ len0 ≤ cap0 ∧ cap0 ≤ maxLen ∧ z0.length = cap0 ∧ (∀ i, i < z0.length → w.cell? (x.add i) = some (.int .u8 (z0.getD i 0))) ∧ ∀ n ∈ z0, (Lit.int .u8 n).wf = true) (y0 : len0 * 1 ≤ 140737488351232) (w1 : (a1 = none ∧ len1 = 0 ∧ cap1 = 0 ∧ z1 = []) ∨ ∃ x, a1 = some x ∧ len1 ≤ cap1 ∧ cap1 ≤ maxLen ∧ z1.length = cap1 ∧ (∀ i, i < z1.length → w.cell? (x.add i) = some (.int .u8 (z1.getD i 0))) ∧ ∀ n ∈ z1, (Lit.int .u8 n).wf = true) (y1 : len1 * 1 ≤ 140737488351232) :
  Calls Try.prog 7 #[.slice a0 len0 cap0, .slice a1 len1 cap1] w fun e w' => e = .returned (.bool true) ∧ Below w.heap.size w w' := by
 obtain ⟨l0, rfl, hr0, hm0, hw0, hc0⟩ := ReadsInt.ofRowC w0
 obtain ⟨l1, rfl, hr1, hm1, hw1, hc1⟩ := ReadsInt.ofRowC w1
 obtain ⟨k, h⟩ := P l0 l1 hm0 y0 hw0 hm1 y1 hw1
 refine (laws_FnFilter.calls k _ _ l0 _ _ l1 true w (Kd.C_of_reads (d := (0 : Int)) (h1 := fun _ => rfl) hr0) hc0 (Kd.C_of_reads (d := (0 : Int)) (h1 := fun _ => rfl) hr1) hc1 h).mono ?_
 rintro e w' ⟨rfl, hd⟩
 exact ⟨rfl, hd⟩

end Go.Proofs.Ytlieapaegmjhnaa.XFnFilter
