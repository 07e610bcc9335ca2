-- Written by xprint.py of this session: out of the translation, by the kit's print with contracts of this session.
import Derived.Test.YtemnidhllbbjnaaXFnExactRehashTox0
import Derived.Test.YtemnidhllbbjnaaXFnExactRehashTox8
namespace Go.Proofs.Ytemnidhllbbjnaa.XFnExactRehashTo
open Go.RowKit Go.Proofs.YtemnidhllbbjnaaW.PrintWords Go.Proofs.YtemnidhllbbjnaaW.PrintLast Go.Proofs.YtemnidhllbbjnaaW.PrintMore
open Go.Proofs.Ytemnidhllbbjnaa.Min0
attribute [local go_sem] max2_int min2_int max_two min_two max_three min_three max_four min_four   -- for this text's walks alone
set_option linter.unusedVariables false
set_option linter.unusedSimpArgs false

/-! ### impl_NewTable: function 44 -/
def impl_NewTable.f (a0 : Int) : Option (Int × (List (S79)) × (List (S79)) × Int × Bool) := (impl_isSeed.f a0).bind fun t320 => (if t320 = true then (if 11 ≤ 11728124029610 then (some (a0, (List.replicate 11 z79), (List.replicate 11 z79), 0, true)) else (none)) else (some (0, ([] : List (S79)), ([] : List (S79)), 0, false)))
set_option maxHeartbeats 8000000 in
set_option maxRecDepth 100000 in
theorem impl_NewTable.calls (a0 : Int) (r1 : Int) (r2 : List (S79)) (r3 : List (S79)) (r4 : Int) (r5 : Bool) (w : World) (h : impl_NewTable.f a0 = some (r1, r2, r3, r4, r5)) :
  Calls Try.prog 44 #[.int .i64 a0] w fun e w' => ∃ v1_ v2_ : Value, e = .returned (.tuple #[.agg #[.int .i64 r1, v1_, v2_, .int .i64 r4], .bool r5]) ∧ Kd.R k79 79 w' w.heap.size (fun k_ => some k_ ≠ (v2_ : Value).ownBlock) v1_ r2 ∧ Kd.R k79 79 w' w.heap.size (fun k_ => some k_ ≠ (v1_ : Value).ownBlock) v2_ r3 ∧ Below w.heap.size w w' := by
 have hu25 := Try.underlying25
 have HB := Aside0.mk (Below.refl w.heap.size w)
 have H : ((impl_isSeed.f a0).bind fun t320 => (if t320 = true then (if 11 ≤ 11728124029610 then (some (a0, (List.replicate 11 z79), (List.replicate 11 z79), 0, true)) else (none)) else (some (0, ([] : List (S79)), ([] : List (S79)), 0, false)))) = some (r1, r2, r3, r4, r5) := h
 clear h
 replace H := Option.bind_eq_some_iff.mp H
 obtain ⟨t320, A20, H⟩ := H
 replace H : (if t320 = true then (if 11 ≤ 11728124029610 then (some (a0, (List.replicate 11 z79), (List.replicate 11 z79), 0, true)) else (none)) else (some (0, ([] : List (S79)), ([] : List (S79)), 0, false))) = some (r1, r2, r3, r4, r5) := H
 have A2 := Aside0.mk A20
 clear A20
 by_cases c3 : t320 = true
 ·subst c3
  have H1 : (if 11 ≤ 11728124029610 then (some (a0, (List.replicate 11 z79), (List.replicate 11 z79), 0, true)) else (none)) = some (r1, r2, r3, r4, r5) := by rw [if_pos rfl] at H; exact H
  clear H
  have H := H1
  clear H1
  by_cases c4 : 11 ≤ 11728124029610
  ·rw [if_pos c4] at H
   have c4b0 := eq_true c4
   have c4b1 : decide (11 ≤ 11728124029610) = true := decide_eq_true c4
   clear c4
   obtain ⟨y321, hy321⟩ : ∃ y_ : List (S79), y_ = (List.replicate 11 z79) := ⟨_, rfl⟩
   replace H : (some (a0, y321, (List.replicate 11 z79), 0, true)) = some (r1, r2, r3, r4, r5) := by first | (rw [hy321]; with_reducible exact H) | (have H2_ := (Option.bind_some _ _).symm.trans H; rw [hy321]; with_reducible exact H2_) | (have H2_ := (Option.bind_some _ _).symm.trans H; with_reducible exact H2_) | with_reducible exact H | (rw [hy321]; exact H) | exact H
   have Ny321 := Aside0.mk hy321
   clear hy321
   obtain ⟨y324, hy324⟩ : ∃ y_ : List (S79), y_ = (List.replicate 11 z79) := ⟨_, rfl⟩
   replace H : (some (a0, y321, y324, 0, true)) = some (r1, r2, r3, r4, r5) := by first | (rw [hy324]; with_reducible exact H) | (have H2_ := (Option.bind_some _ _).symm.trans H; rw [hy324]; with_reducible exact H2_) | (have H2_ := (Option.bind_some _ _).symm.trans H; with_reducible exact H2_) | with_reducible exact H | (rw [hy324]; exact H) | exact H
   have Ny324 := Aside0.mk hy324
   clear hy324
   simp only [Option.some.injEq, Prod.mk.injEq] at H
   obtain ⟨rfl, rfl, rfl, rfl, rfl⟩ := H
   go_enter Try.func44, Try.ntmps44
   try go_wp2_with (first | ((with_reducible refine gate_dst (N := 2) rfl ?_); refine box_event ?hg (N := 2) ?hd (cs := #[.int .i64 0, .slice none 0 0, .slice none 0 0, .int .i64 0]) (t := 25) ?hr ?_; (case hd => rfl); (case hg => rfl); (case hr => first | (go_simp; done) | (go_simp; rfl)); intro gb319 hg w5 hbox hb; have BK319 := Aside0.mk (hbox); have GW319 := Aside0.mk ((by rw [hg]; exact (below_size (bB HB)) : w.heap.size ≤ gb319)); have GE319 := Aside0.mk ((by rw [hg]; exact (below_size (bB HB)) : w.heap.size ≤ gb319)); replace HB := Aside0.mk (below_step (bB HB) hb); clear hb hbox hg) | ((with_reducible refine gate_callee (f := 70) rfl ?_); refine goesL_ (some 5) rfl rfl Try.func70 (by kernel_rfl) rfl #[.int .i64 a0] rfl (by (try simp only [List.map_toArray, List.map_cons, List.map_nil]); first | done | rfl | (simp only [List.length_drop, List.length_take]; rfl)) ?_; (with_reducible refine (impl_isSeed.calls a0 true _ A2.out).mono ?_); rintro e w' ⟨rfl, ⟨nd, rfl⟩⟩; refine ⟨_, rfl, ?_⟩; (try (rw [drewN_self w5]; generalize hq_ : World.drewN w5 _ = w5; have n0_ : Aside0 (w5.heap[gb319]? = some (.cells #[.int .i64 0, .slice none 0 0, .slice none 0 0, .int .i64 0] 25 (0, 0))) := ⟨by rw [← hq_]; exact (kB BK319)⟩; have n1_ : Aside0 (Below w.heap.size w w5) := ⟨by rw [← hq_]; exact (bB HB)⟩; clear BK319 HB hq_; have BK319 := n0_; have HB := n1_; clear n0_ n1_))))
   replace BK319 := Aside0.mk (blk_drew BK319.out)
   replace HB := Aside0.mk (below_drew1 HB.out)
   refine start_ (n := 6) (S := fun w' => True) (ds := []) #[false, false, false, false, false, false] (by kernel_rfl) rfl rfl trivial (fun hHeld => ?_)
   generalize w5.drew = w6 at BK319 HB hHeld ⊢
   refine pure_ (i := 0) (N := some 8) (v := ?_) (a' := ?_) #[true, false, false, false, false, false] rfl rfl (by kernel_rfl) (fun _ _ _ h => h) (Or.inl ⟨by rfl, ?_⟩) ?_ ?_
   rotate_left
   ·intro w'
    go_simp
    with_reducible rfl
   rotate_left
   ·simp only [Act.put, List.setIfInBounds_toArray, List.set_cons_zero, List.set_cons_succ, i64_w, i32_w]
    rfl
   refine join_ (σ := Value × Value) 3 #[true, true, true, false, false, false] (fun s_ => [(9, s_.1), (10, s_.2)]) (fun s_ w' => (Kd.R k79 79 w' w.heap.size (fun k_ => some k_ ≠ (s_.2 : Value).ownBlock) s_.1 y321) ∧ (Kd.R k79 79 w' w.heap.size (fun k_ => some k_ ≠ (s_.1 : Value).ownBlock) s_.2 y324) ∧ (w'.heap[gb319]? = some (.cells #[.int .i64 0, .slice none 0 0, .slice none 0 0, .int .i64 0] 25 (0, 0))) ∧ (Below w.heap.size w w')) ?_ ?_
   rotate_left
   ·intro hCont
    refine two_ (i := 1) (j := 2) (Ni := some 9) (Nj := some 10) #[true, true, false, false, false, false] #[true, false, true, false, false, false] rfl rfl rfl rfl (by kernel_rfl) (by decide) (by decide) (fun K hK => ?_) (fun K hK => ?_)
    ·skip
     refine Kd.R_make_step k79 _ 79 (by rfl) (N := 9) rfl 23 _ _ rfl 11 rfl rfl Try.underlying23 (.agg #[(.bool false), (.int .i64 0), (.int .i64 0)]) 24 info79 rfl (by decide) (by omega) z79 (ok := fun _ => True) (okp := fun _ => True) (k79_mkM _ _ _ z79 ) (fun _ hk => hk) trivial (by omega) (by omega) (Below.refl _ _) (Nat.le_refl _) ?_
     intro v322 w7 ho8 hb hg_ hnew_
     clear hg_ hnew_
     (first | rw [← Ny321.out] at ho8 | (simp only [Int.reduceToNat] at ho8; rw [← Ny321.out] at ho8))
     have HO323 := Aside0.mk (Kd.R_lower ho8 (below_size (bB HB)))
     replace BK319 := Aside0.mk (blk_below (g := gb319) (o := .cells #[.int .i64 0, .slice none 0 0, .slice none 0 0, .int .i64 0] 25 (0, 0)) (kB BK319) hb)
     replace HB := Aside0.mk (below_step (bB HB) hb)
     clear hb ho8
     refine hK.out _ _ trivial (fun hHeld => ?_)
     clear hK K
     refine norm_ (a' := ?_) ?_ ?_
     rotate_left
     ·show Act.put _ (some 9) _ = _
      simp only [Act.put, List.setIfInBounds_toArray, List.set_cons_zero, List.set_cons_succ, i64_w, i32_w]
      rfl
     refine one_ (i := 2) (N := some 10) #[true, true, true, false, false, false] rfl rfl (by kernel_rfl) (by decide) (fun K hK => ?_)
     refine Kd.R_make_step k79 _ 79 (by rfl) (N := 10) rfl 23 _ _ rfl 11 rfl rfl Try.underlying23 (.agg #[(.bool false), (.int .i64 0), (.int .i64 0)]) 24 info79 rfl (by decide) (by omega) z79 (ok := fun _ => True) (okp := fun _ => True) (k79_mkM _ _ _ z79 ) (fun _ hk => hk) trivial (by omega) (by omega) (Below.refl _ _) (Nat.le_refl _) ?_
     intro v325 w9 ho10 hb hg_ hnew_
     clear hg_ hnew_
     (first | rw [← Ny324.out] at ho10 | (simp only [Int.reduceToNat] at ho10; rw [← Ny324.out] at ho10))
     have HO326 := Aside0.mk (Kd.R_lower (Kd.R_new' ho10 (Kd.R_lt (aR HO323))) (below_size (bB HB)))
     replace HO323 := Aside0.mk (Kd.R_elder' (aR HO323) (Kd.R_base ho10) hb)
     replace BK319 := Aside0.mk (blk_below (g := gb319) (o := .cells #[.int .i64 0, .slice none 0 0, .slice none 0 0, .int .i64 0] 25 (0, 0)) (kB BK319) hb)
     replace HB := Aside0.mk (below_step (bB HB) hb)
     clear hb ho10
     obtain ⟨Ao11, co11, eo11⟩ := Kd.R_slice HO326.out
     (first | subst eo11 | (injection eo11 with f1_ f2_ f3_; have f4_ := f1_.symm; have f5_ := f3_.symm; clear f1_ f2_ f3_; subst f4_; subst f5_))
     obtain ⟨Ao12, co12, eo12⟩ := Kd.R_slice HO323.out
     (first | subst eo12 | (injection eo12 with f1_ f2_ f3_; have f4_ := f1_.symm; have f5_ := f3_.symm; clear f1_ f2_ f3_; subst f4_; subst f5_))
     refine hK.out _ _ trivial (fun hHeld => ?_)
     clear hK K
     refine norm_ (a' := ?_) ?_ ?_
     rotate_left
     ·show Act.put _ (some 10) _ = _
      simp only [Act.put, List.setIfInBounds_toArray, List.set_cons_zero, List.set_cons_succ, i64_w, i32_w]
      rfl
     exact norm_ (by simp only [putAll, Act.put, List.setIfInBounds_toArray, List.set_cons_zero, List.set_cons_succ]) (hCont (.slice Ao12 y321.length co12, .slice Ao11 y324.length co11) _ ⟨(by (with_reducible repeat (first | apply Kd.R_alloc | apply Kd.R_drewN | apply Kd.R_drew)); exact Kd.R_mono HO323.out (fun _ hk => hk.2)), (by (with_reducible repeat (first | apply Kd.R_alloc | apply Kd.R_drewN | apply Kd.R_drew)); exact Kd.R_mono HO326.out (fun _ hk => hk.2)), (kB BK319), (bB HB)⟩)
    ·skip
     refine Kd.R_make_step k79 _ 79 (by rfl) (N := 10) rfl 23 _ _ rfl 11 rfl rfl Try.underlying23 (.agg #[(.bool false), (.int .i64 0), (.int .i64 0)]) 24 info79 rfl (by decide) (by omega) z79 (ok := fun _ => True) (okp := fun _ => True) (k79_mkM _ _ _ z79 ) (fun _ hk => hk) trivial (by omega) (by omega) (Below.refl _ _) (Nat.le_refl _) ?_
     intro v325 w7 ho8 hb hg_ hnew_
     clear hg_ hnew_
     (first | rw [← Ny324.out] at ho8 | (simp only [Int.reduceToNat] at ho8; rw [← Ny324.out] at ho8))
     have HO326 := Aside0.mk (Kd.R_lower ho8 (below_size (bB HB)))
     replace BK319 := Aside0.mk (blk_below (g := gb319) (o := .cells #[.int .i64 0, .slice none 0 0, .slice none 0 0, .int .i64 0] 25 (0, 0)) (kB BK319) hb)
     replace HB := Aside0.mk (below_step (bB HB) hb)
     clear hb ho8
     refine hK.out _ _ trivial (fun hHeld => ?_)
     clear hK K
     refine norm_ (a' := ?_) ?_ ?_
     rotate_left
     ·show Act.put _ (some 10) _ = _
      simp only [Act.put, List.setIfInBounds_toArray, List.set_cons_zero, List.set_cons_succ, i64_w, i32_w]
      rfl
     refine one_ (i := 1) (N := some 9) #[true, true, true, false, false, false] rfl rfl (by kernel_rfl) (by decide) (fun K hK => ?_)
     refine Kd.R_make_step k79 _ 79 (by rfl) (N := 9) rfl 23 _ _ rfl 11 rfl rfl Try.underlying23 (.agg #[(.bool false), (.int .i64 0), (.int .i64 0)]) 24 info79 rfl (by decide) (by omega) z79 (ok := fun _ => True) (okp := fun _ => True) (k79_mkM _ _ _ z79 ) (fun _ hk => hk) trivial (by omega) (by omega) (Below.refl _ _) (Nat.le_refl _) ?_
     intro v322 w9 ho10 hb hg_ hnew_
     clear hg_ hnew_
     (first | rw [← Ny321.out] at ho10 | (simp only [Int.reduceToNat] at ho10; rw [← Ny321.out] at ho10))
     have HO323 := Aside0.mk (Kd.R_lower (Kd.R_new' ho10 (Kd.R_lt (aR HO326))) (below_size (bB HB)))
     replace HO326 := Aside0.mk (Kd.R_elder' (aR HO326) (Kd.R_base ho10) hb)
     replace BK319 := Aside0.mk (blk_below (g := gb319) (o := .cells #[.int .i64 0, .slice none 0 0, .slice none 0 0, .int .i64 0] 25 (0, 0)) (kB BK319) hb)
     replace HB := Aside0.mk (below_step (bB HB) hb)
     clear hb ho10
     obtain ⟨Ao11, co11, eo11⟩ := Kd.R_slice HO326.out
     (first | subst eo11 | (injection eo11 with f1_ f2_ f3_; have f4_ := f1_.symm; have f5_ := f3_.symm; clear f1_ f2_ f3_; subst f4_; subst f5_))
     obtain ⟨Ao12, co12, eo12⟩ := Kd.R_slice HO323.out
     (first | subst eo12 | (injection eo12 with f1_ f2_ f3_; have f4_ := f1_.symm; have f5_ := f3_.symm; clear f1_ f2_ f3_; subst f4_; subst f5_))
     refine hK.out _ _ trivial (fun hHeld => ?_)
     clear hK K
     refine norm_ (a' := ?_) ?_ ?_
     rotate_left
     ·show Act.put _ (some 9) _ = _
      simp only [Act.put, List.setIfInBounds_toArray, List.set_cons_zero, List.set_cons_succ, i64_w, i32_w]
      rfl
     exact norm_ (by simp only [putAll, Act.put, List.setIfInBounds_toArray, List.set_cons_zero, List.set_cons_succ]) (hCont (.slice Ao12 y321.length co12, .slice Ao11 y324.length co11) _ ⟨(by (with_reducible repeat (first | apply Kd.R_alloc | apply Kd.R_drewN | apply Kd.R_drew)); exact Kd.R_mono HO323.out (fun _ hk => hk.2)), (by (with_reducible repeat (first | apply Kd.R_alloc | apply Kd.R_drewN | apply Kd.R_drew)); exact Kd.R_mono HO326.out (fun _ hk => hk.2)), (kB BK319), (bB HB)⟩)
   rintro ⟨v322, v325⟩ w13 ⟨h0_, h1_, h2_, h3_⟩
   have n0_ : Aside0 (Kd.R k79 79 w13 w.heap.size (fun k_ => some k_ ≠ (v325 : Value).ownBlock) v322 y321) := ⟨h0_⟩
   have n1_ : Aside0 (Kd.R k79 79 w13 w.heap.size (fun k_ => some k_ ≠ (v322 : Value).ownBlock) v325 y324) := ⟨h1_⟩
   have n2_ : Aside0 (w13.heap[gb319]? = some (.cells #[.int .i64 0, .slice none 0 0, .slice none 0 0, .int .i64 0] 25 (0, 0))) := ⟨h2_⟩
   have n3_ : Aside0 (Below w.heap.size w w13) := ⟨h3_⟩
   clear BK319
   clear HB
   clear h0_ h1_ h2_ h3_
   have HO323 := n0_
   have HO326 := n1_
   have BK319 := n2_
   have HB := n3_
   clear n0_ n1_ n2_ n3_
   have hHeld := trivial
   obtain ⟨Ao14, co14, eo14⟩ := Kd.R_slice HO326.out
   (first | subst eo14 | (injection eo14 with f1_ f2_ f3_; have f4_ := f1_.symm; have f5_ := f3_.symm; clear f1_ f2_ f3_; subst f4_; subst f5_))
   obtain ⟨Ao15, co15, eo15⟩ := Kd.R_slice HO323.out
   (first | subst eo15 | (injection eo15 with f1_ f2_ f3_; have f4_ := f1_.symm; have f5_ := f3_.symm; clear f1_ f2_ f3_; subst f4_; subst f5_))
   refine norm_ (a' := ?_) ?_ ?_
   rotate_left
   ·simp only [putAll, Act.put, List.setIfInBounds_toArray, List.set_cons_zero, List.set_cons_succ]
    rfl
   refine pure_ (i := 3) (N := some 11) (v := ?_) (a' := ?_) #[true, true, true, true, false, false] rfl rfl (by kernel_rfl) (fun _ _ _ h => h) (Or.inl ⟨by rfl, ?_⟩) ?_ ?_
   rotate_left
   ·intro w'
    go_simp
    with_reducible rfl
   rotate_left
   ·simp only [Act.put, List.setIfInBounds_toArray, List.set_cons_zero, List.set_cons_succ, i64_w, i32_w]
    rfl
   refine one_ (i := 4) (N := none) #[true, true, true, true, true, false] rfl rfl (by kernel_rfl) (by decide) (fun K hK => ?_)
   have hs16 : w13.cell? ⟨gb319, 0, none⟩ = some (.int .i64 0) := (blk_cell BK319.out 0).trans rfl
   have hfs16 := blk_frozen BK319.out 0
   have hs17 : w13.cell? ⟨gb319, 1, none⟩ = some (.slice none 0 0) := (blk_cell BK319.out 1).trans rfl
   have hfs17 := blk_frozen BK319.out 1
   have hs18 : w13.cell? ⟨gb319, 2, none⟩ = some (.slice none 0 0) := (blk_cell BK319.out 2).trans rfl
   have hfs18 := blk_frozen BK319.out 2
   have hs19 : w13.cell? ⟨gb319, 3, none⟩ = some (.int .i64 0) := (blk_cell BK319.out 3).trans rfl
   have hfs19 := blk_frozen BK319.out 3
   refine skip_ (w1 := ?_) (by rfl) rfl ?_ ?_
   rotate_left
   ·go_simp
    rfl
   refine hK.out _ _ trivial (fun hHeld => ?_)
   clear hK K
   refine pure_ (i := 5) (N := some 3) (v := ?_) (a' := ?_) #[true, true, true, true, true, true] rfl rfl (by kernel_rfl) (fun _ _ _ h => h) (Or.inl ⟨by rfl, ?_⟩) ?_ ?_
   rotate_left
   ·intro w'
    go_simp
    with_reducible rfl
   rotate_left
   ·simp only [Act.put, List.setIfInBounds_toArray, List.set_cons_zero, List.set_cons_succ, i64_w, i32_w]
    rfl
   refine done_ (by kernel_rfl) ?_
   try go_wp2
   refine bodyPost_ret (results_ct rfl _ _ gb319 25 #[.int .i64 a0, .slice Ao15 y321.length co15, .slice Ao14 y324.length co14, .int .i64 0] (0, 0) _ rfl (by (with_reducible repeat (first | refine blk_drewN ?_ _ | refine blk_drew ?_ | refine blk_alloc ?_ _)); refine blk_put (cs := #[.int .i64 a0, .slice Ao15 y321.length co15, .slice Ao14 y324.length co14, .int .i64 0]) ?_ 3 _ rfl; (with_reducible repeat (first | refine blk_drewN ?_ _ | refine blk_drew ?_ | refine blk_alloc ?_ _)); refine blk_put (cs := #[.int .i64 a0, .slice Ao15 y321.length co15, .slice none 0 0, .int .i64 0]) ?_ 2 _ rfl; (with_reducible repeat (first | refine blk_drewN ?_ _ | refine blk_drew ?_ | refine blk_alloc ?_ _)); refine blk_put (cs := #[.int .i64 a0, .slice none 0 0, .slice none 0 0, .int .i64 0]) ?_ 1 _ rfl; (with_reducible repeat (first | refine blk_drewN ?_ _ | refine blk_drew ?_ | refine blk_alloc ?_ _)); refine blk_put (cs := #[.int .i64 0, .slice none 0 0, .slice none 0 0, .int .i64 0]) ?_ 0 _ rfl; (with_reducible repeat (first | refine blk_drewN ?_ _ | refine blk_drew ?_ | refine blk_alloc ?_ _)); exact BK319.out) Try.underlying25 rfl (by kernel_rfl)) rfl ?_
   exact ⟨_, _, by first | rfl | (simp [errW_none, errW_some] <;> rfl) | (simp [*, errW_none, errW_some] <;> rfl), by (with_reducible repeat (first | apply Kd.R_alloc | apply Kd.R_drewN | apply Kd.R_drew)); exact Kd.R_mono (Kd.R_far (p := ⟨gb319, 3, none⟩) (Kd.R_far (p := ⟨gb319, 2, none⟩) (Kd.R_far (p := ⟨gb319, 1, none⟩) (Kd.R_far (p := ⟨gb319, 0, none⟩) (Kd.R_types HO323.out BK319.out (by decide)) (fun _ hk => hk.2) (.int .i64 a0)) (fun _ hk => hk.2) (.slice Ao15 y321.length co15)) (fun _ hk => hk.2) (.slice Ao14 y324.length co14)) (fun _ hk => hk.2) (.int .i64 0)) (fun _ hk => hk.1), by (with_reducible repeat (first | apply Kd.R_alloc | apply Kd.R_drewN | apply Kd.R_drew)); exact Kd.R_mono (Kd.R_far (p := ⟨gb319, 3, none⟩) (Kd.R_far (p := ⟨gb319, 2, none⟩) (Kd.R_far (p := ⟨gb319, 1, none⟩) (Kd.R_far (p := ⟨gb319, 0, none⟩) (Kd.R_types HO326.out BK319.out (by decide)) (fun _ hk => hk.2) (.int .i64 a0)) (fun _ hk => hk.2) (.slice Ao15 y321.length co15)) (fun _ hk => hk.2) (.slice Ao14 y324.length co14)) (fun _ hk => hk.2) (.int .i64 0)) (fun _ hk => hk.1), bB HB⟩
  ·rw [if_neg c4] at H
   exact absurd H (by simp)
 ·replace c3 := Bool.eq_false_iff.mpr c3
  subst c3
  have H1 : (some (0, ([] : List (S79)), ([] : List (S79)), 0, false)) = some (r1, r2, r3, r4, r5) := by rw [if_neg (show ¬ (false = true) by decide)] at H; exact H
  clear H
  have H := H1
  clear H1
  simp only [Option.some.injEq, Prod.mk.injEq] at H
  obtain ⟨rfl, rfl, rfl, rfl, rfl⟩ := H
  go_enter Try.func44, Try.ntmps44
  go_wp2_with (first | ((with_reducible refine gate_dst (N := 2) rfl ?_); refine box_event ?hg (N := 2) ?hd (cs := #[.int .i64 0, .slice none 0 0, .slice none 0 0, .int .i64 0]) (t := 25) ?hr ?_; (case hd => rfl); (case hg => rfl); (case hr => first | (go_simp; done) | (go_simp; rfl)); intro gb319 hg w20 hbox hb; have BK319 := Aside0.mk (hbox); have GW319 := Aside0.mk ((by rw [hg]; exact (below_size (bB HB)) : w.heap.size ≤ gb319)); have GE319 := Aside0.mk ((by rw [hg]; exact (below_size (bB HB)) : w.heap.size ≤ gb319)); replace HB := Aside0.mk (below_step (bB HB) hb); clear hb hbox hg) | ((with_reducible refine gate_callee (f := 70) rfl ?_); refine goesL_ (some 5) rfl rfl Try.func70 (by kernel_rfl) rfl #[.int .i64 a0] rfl (by (try simp only [List.map_toArray, List.map_cons, List.map_nil]); first | done | rfl | (simp only [List.length_drop, List.length_take]; rfl)) ?_; (with_reducible refine (impl_isSeed.calls a0 false _ A2.out).mono ?_); rintro e w' ⟨rfl, ⟨nd, rfl⟩⟩; refine ⟨_, rfl, ?_⟩; (try (rw [drewN_self w20]; generalize hq_ : World.drewN w20 _ = w20; have n0_ : Aside0 (w20.heap[gb319]? = some (.cells #[.int .i64 0, .slice none 0 0, .slice none 0 0, .int .i64 0] 25 (0, 0))) := ⟨by rw [← hq_]; exact (kB BK319)⟩; have n1_ : Aside0 (Below w.heap.size w w20) := ⟨by rw [← hq_]; exact (bB HB)⟩; clear BK319 HB hq_; have BK319 := n0_; have HB := n1_; clear n0_ n1_)); have hcz21_0 : w20.cell? ⟨gb319, 0, none⟩ = some (.int .i64 0) := (blk_cell BK319.out 0).trans rfl; have hcz21_1 : w20.cell? ⟨gb319, 1, none⟩ = some (.slice none 0 0) := (blk_cell BK319.out 1).trans rfl; have hcz21_2 : w20.cell? ⟨gb319, 2, none⟩ = some (.slice none 0 0) := (blk_cell BK319.out 2).trans rfl; have hcz21_3 : w20.cell? ⟨gb319, 3, none⟩ = some (.int .i64 0) := (blk_cell BK319.out 3).trans rfl; have hfz21_0 := blk_frozen BK319.out 0; have hfz21_1 := blk_frozen BK319.out 1; have hfz21_2 := blk_frozen BK319.out 2; have hfz21_3 := blk_frozen BK319.out 3))
  refine bodyPost_ret (results_ct rfl _ _ gb319 25 #[.int .i64 0, .slice none 0 0, .slice none 0 0, .int .i64 0] (0, 0) _ rfl (by (with_reducible repeat (first | refine blk_drewN ?_ _ | refine blk_drew ?_ | refine blk_alloc ?_ _)); refine blk_put (cs := #[.int .i64 0, .slice none 0 0, .slice none 0 0, .int .i64 0]) ?_ 3 _ rfl; (with_reducible repeat (first | refine blk_drewN ?_ _ | refine blk_drew ?_ | refine blk_alloc ?_ _)); refine blk_put (cs := #[.int .i64 0, .slice none 0 0, .slice none 0 0, .int .i64 0]) ?_ 2 _ rfl; (with_reducible repeat (first | refine blk_drewN ?_ _ | refine blk_drew ?_ | refine blk_alloc ?_ _)); refine blk_put (cs := #[.int .i64 0, .slice none 0 0, .slice none 0 0, .int .i64 0]) ?_ 1 _ rfl; (with_reducible repeat (first | refine blk_drewN ?_ _ | refine blk_drew ?_ | refine blk_alloc ?_ _)); refine blk_put (cs := #[.int .i64 0, .slice none 0 0, .slice none 0 0, .int .i64 0]) ?_ 0 _ rfl; (with_reducible repeat (first | refine blk_drewN ?_ _ | refine blk_drew ?_ | refine blk_alloc ?_ _)); exact BK319.out) Try.underlying25 rfl (by kernel_rfl)) rfl ?_
  exact ⟨_, _, by first | rfl | (simp [errW_none, errW_some] <;> rfl) | (simp [*, errW_none, errW_some] <;> rfl), by first | exact Kd.R_nil _ _ _ _ _ | exact Kd.N_nil _ _ _ _ _ | exact Kd.V_nil _ _ _ _ _ | exact Kd.Q_nil _ _ _ _ _ | exact Kd.S_nil _ _ _ _ _, by first | exact Kd.R_nil _ _ _ _ _ | exact Kd.N_nil _ _ _ _ _ | exact Kd.V_nil _ _ _ _ _ | exact Kd.Q_nil _ _ _ _ _ | exact Kd.S_nil _ _ _ _ _, bB HB⟩

/-! ### impl_Table_find: function 66 -/

/-- Where a key's slot is: 1 to the left, 2 to the right, 0 nowhere; and its place. -/
def impl_Table_find.f (a0 : Int) (l1 l2 : List S79) (a1 : Int) : Option (Int × Int) :=
 (impl_placesOf.f a0 a1).bind fun p => if (0 ≤ p.1 ∧ p.1 < (l1.length : Int)) ∧ 0 ≤ p.2 ∧ p.2 < (l2.length : Int) then
  (if (rd_T79 l1 p.1).f0 = true ∧ (rd_T79 l1 p.1).f1 = a1 then some (1, p.1) else if (rd_T79 l2 p.2).f0 = true ∧ (rd_T79 l2 p.2).f1 = a1 then some (2, p.2) else some (0, 0)) else none
def impl_Table_find.ptr (g1 g2 : Nat) (s i : Int) : Option Addr := if s = 1 then some ⟨g1, i.toNat * 3, none⟩ else if s = 2 then some ⟨g2, i.toNat * 3, none⟩ else none
set_option maxHeartbeats 4000000 in
set_option maxRecDepth 100000 in
theorem impl_Table_find.calls (g g1 g2 c1 c2 : Nat) (a0 m : Int) (l1 l2 : List S79) (a1 s i : Int) (w : World)
  (hb : w.heap[g]? = some (.cells #[.int .i64 a0, .slice (some ⟨g1, 0, none⟩) l1.length c1, .slice (some ⟨g2, 0, none⟩) l2.length c2, .int .i64 m] 25 (0, 0)))
  (hr1 : Kd.C k79 w (some ⟨g1, 0, none⟩) l1.length l1) (hr2 : Kd.C k79 w (some ⟨g2, 0, none⟩) l2.length l2)
  (h : impl_Table_find.f a0 l1 l2 a1 = some (s, i)) :
  Calls Try.prog 66 #[.pointer (some ⟨g, 0, none⟩), .int .i64 a1] w fun e w' => e = .returned (.pointer (impl_Table_find.ptr g1 g2 s i)) ∧ Below w.heap.size w w' := by
 have hu25 := Try.underlying25
 have hu79 := Try.underlying79
 obtain ⟨⟨p, q⟩, hp, h⟩ := Option.bind_eq_some_iff.mp h
 have hP := Aside0.mk hp
 clear hp
 by_cases hin : (0 ≤ p ∧ p < (l1.length : Int)) ∧ 0 ≤ q ∧ q < (l2.length : Int)
 ·simp only [if_pos hin] at h
  obtain ⟨⟨p0, p1⟩, q0, q1⟩ := hin
  have H := Aside0.mk h
  clear h
  have hx0 : w.cell? ⟨g, 0, none⟩ = some (.int .i64 a0) := (blk_cell hb 0).trans rfl
  have hx1 : w.cell? ⟨g, 1, none⟩ = some (.slice (some ⟨g1, 0, none⟩) l1.length c1) := (blk_cell hb 1).trans rfl
  have hx2 : w.cell? ⟨g, 2, none⟩ = some (.slice (some ⟨g2, 0, none⟩) l2.length c2) := (blk_cell hb 2).trans rfl
  have HB := Aside0.mk hb
  have R1 := Aside0.mk hr1
  have R2 := Aside0.mk hr2
  clear hb hr1 hr2
  go_enter Try.func66, Try.ntmps66
  go_wp2_with (first | (go_at_call 71; (refine (impl_placesOf.calls a0 a1 p q _ hP.out).mono ?_); rintro e w1 ⟨rfl, ⟨nd, rfl⟩⟩))
  have y1 : (w.drewN nd).cell? ⟨g, 1, none⟩ = some (.slice (some ⟨g1, 0, none⟩) l1.length c1) := hx1
  have y2 : (w.drewN nd).cell? ⟨g, 2, none⟩ = some (.slice (some ⟨g2, 0, none⟩) l2.length c2) := hx2
  go_region_held3 (fun w' => w'.cell? ⟨g, 1, none⟩ = some (.slice (some ⟨g1, 0, none⟩) l1.length c1) ∧ w'.cell? ⟨g, 2, none⟩ = some (.slice (some ⟨g2, 0, none⟩) l2.length c2)) (go_keep) (fail)
  obtain ⟨h, hh⟩ : ∃ h : Nat, h = w.heap.size := ⟨_, rfl⟩
  rw [← hh]
  obtain ⟨W, hW⟩ : ∃ W : World, W = (w.drewN (nd + 1)).alloc (.cells #[.pointer (some ⟨g1, p.toNat * 3, none⟩), .pointer (some ⟨g2, q.toNat * 3, none⟩)] 80) := ⟨_, rfl⟩
  rw [← hW]
  have BW := Aside0.mk (show Below w.heap.size w W by rw [hW]; repeat (first | exact Below.refl _ _ | apply below_alloc | apply pw_below_drewN | apply below_drew1))
  have L := heap_alloc_new (w.drewN (nd + 1)) (.cells #[.pointer (some ⟨g1, p.toNat * 3, none⟩), .pointer (some ⟨g2, q.toNat * 3, none⟩)] 80)
  rw [← hW, show (w.drewN (nd + 1)).heap.size = h from hh.symm] at L
  have L0 := Aside0.mk (show W.cell? ⟨h, 0, none⟩ = some (.pointer (some ⟨g1, p.toNat * 3, none⟩)) from (blk_cell L 0).trans rfl)
  have L1 := Aside0.mk (show W.cell? ⟨h, 1, none⟩ = some (.pointer (some ⟨g2, q.toNat * 3, none⟩)) from (blk_cell L 1).trans rfl)
  obtain ⟨ad1, e1, r10, r11, _⟩ := at_T79 R1.out p p0 p1
  cases e1
  obtain ⟨ad2, e2, r20, r21, _⟩ := at_T79 R2.out q q0 q1
  cases e2
  replace r10 := (BW.out.cell (World.block_lt_of_cell? w _ r10)).trans r10
  replace r11 := (BW.out.cell (World.block_lt_of_cell? w _ r11)).trans r11
  replace r20 := (BW.out.cell (World.block_lt_of_cell? w _ r20)).trans r20
  replace r21 := (BW.out.cell (World.block_lt_of_cell? w _ r21)).trans r21
  have hz : ∀ g k : Nat, (⟨g, 0, none⟩ : Addr).add k = ⟨g, k, none⟩ := by
   intro g k
   by_cases hk : k = 0 <;> simp [Addr.add, hk]
  simp only [hz] at r10 r11 r20 r21
  generalize (rd_T79 l1 p).f0 = b1 at *
  generalize (rd_T79 l1 p).f1 = v1 at *
  generalize (rd_T79 l2 q).f0 = b2 at *
  generalize (rd_T79 l2 q).f1 = v2 at *
  have X0 := Aside0.mk (And.intro r10 r11)
  have X1 := Aside0.mk (And.intro r20 r21)
  clear hz hx0 hx1 hx2 y1 y2 r10 r11 r20 r21 L hW hh p0 p1 q0 q1 hP R1 R2 HB
  go_wp2
  go_loopg [32] 2 (fun gg v32 w' => ∃ i : Nat, i ≤ 2 ∧ 2 - i ≤ gg ∧ v32 = .int .i64 i ∧ w' = W ∧ Aside0 (1 ≤ i → ¬ (b1 = true ∧ v1 = a1)) ∧ Aside0 (2 ≤ i → ¬ (b2 = true ∧ v2 = a1)))
  case atStart => exact ⟨0, by omega, by omega, rfl, rfl, ⟨fun h_ => absurd h_ (by omega)⟩, ⟨fun h_ => absurd h_ (by omega)⟩⟩
  case round =>
   obtain ⟨i_, hi, hg, rfl, rfl, H1, H2⟩ := hrel
   obtain rfl | rfl | rfl : i_ = 0 ∨ i_ = 1 ∨ i_ = 2 := by omega
   ·-- place 0
    have hl : wr.cell? ⟨h, 0, none⟩ = some (.pointer (some ⟨g1, p.toNat * 3, none⟩)) := L0.out
    have hx0 : wr.cell? ⟨g1, p.toNat * 3, none⟩ = some (.bool b1) := X0.out.1
    have hx1 : wr.cell? ⟨g1, p.toNat * 3 + 1, none⟩ = some (.int .i64 v1) := X0.out.2
    cases b1 with
    | false =>
     go_wp2
     go_roundg 1
     case measure => omega
     case rel => exact ⟨1, by omega, by omega, by go_num, rfl, ⟨fun _ h_ => Bool.noConfusion h_.1⟩, ⟨fun h_ => absurd h_ (by omega)⟩⟩
    | true =>
     by_cases he : v1 = a1
     ·subst he
      go_wp2
      go_ret
      have h2 := H.out
      simp only [if_true, and_self, Option.some.injEq, Prod.mk.injEq] at h2
      obtain ⟨rfl, rfl⟩ := h2
      exact ⟨rfl, BW.out⟩
     ·have he' : (v1 == a1) = false := by simpa using he
      go_wp2
      go_roundg 1
      case measure => omega
      case rel => exact ⟨1, by omega, by omega, by go_num, rfl, ⟨fun _ h_ => he h_.2⟩, ⟨fun h_ => absurd h_ (by omega)⟩⟩
   ·-- place 1
    have hl : wr.cell? ⟨h, 1, none⟩ = some (.pointer (some ⟨g2, q.toNat * 3, none⟩)) := L1.out
    have hx0 : wr.cell? ⟨g2, q.toNat * 3, none⟩ = some (.bool b2) := X1.out.1
    have hx1 : wr.cell? ⟨g2, q.toNat * 3 + 1, none⟩ = some (.int .i64 v2) := X1.out.2
    cases b2 with
    | false =>
     go_wp2
     go_roundg 0
     case measure => omega
     case rel => exact ⟨2, by omega, by omega, by go_num, rfl, ⟨fun _ => H1.out (by omega)⟩, ⟨fun _ h_ => Bool.noConfusion h_.1⟩⟩
    | true =>
     by_cases he : v2 = a1
     ·subst he
      go_wp2
      go_ret
      have h2 := H.out
      rw [if_neg (H1.out (by omega))] at h2
      simp only [if_true, and_self, Option.some.injEq, Prod.mk.injEq] at h2
      obtain ⟨rfl, rfl⟩ := h2
      exact ⟨rfl, BW.out⟩
     ·have he' : (v2 == a1) = false := by simpa using he
      go_wp2
      go_roundg 0
      case measure => omega
      case rel => exact ⟨2, by omega, by omega, by go_num, rfl, ⟨fun _ => H1.out (by omega)⟩, ⟨fun _ h_ => he h_.2⟩⟩
   ·have h2 := H.out
    rw [if_neg (H1.out (by omega)), if_neg (H2.out (by omega))] at h2
    simp only [Option.some.injEq, Prod.mk.injEq] at h2
    obtain ⟨rfl, rfl⟩ := h2
    go_wp2
    go_ret
    exact ⟨rfl, BW.out⟩
 ·simp only [if_neg hin] at h
  cases h

/-- Two rows of slots of the call's own, told by their blocks. -/
def Tb (b : Nat) (W : World) (g1 g2 c1 c2 n1 n2 : Nat) (l1 l2 : List S79) : Prop :=
 Kd.R k79 79 W b (fun k => k = g1) (.slice (some ⟨g1, 0, none⟩) n1 c1) l1 ∧ Kd.R k79 79 W b (fun k => k = g2) (.slice (some ⟨g2, 0, none⟩) n2 c2) l2 ∧ g1 ≠ g2 ∧ b ≤ g1 ∧ b ≤ g2 ∧ g1 < W.heap.size ∧ g2 < W.heap.size
theorem setCell_size (W : World) (p : Addr) (v : Value) : (W.setCell p v).heap.size = W.heap.size := by simp [World.setCell]
theorem Tb.below {b : Nat} {W W' : World} {g1 g2 c1 c2 n1 n2 : Nat} {l1 l2 : List S79} (h : Tb b W g1 g2 c1 c2 n1 n2 l1 l2) (hb : Below W.heap.size W W') : Tb b W' g1 g2 c1 c2 n1 n2 l1 l2 :=
 ⟨Kd.R_below h.1 hb, Kd.R_below h.2.1 hb, h.2.2.1, h.2.2.2.1, h.2.2.2.2.1, Nat.lt_of_lt_of_le h.2.2.2.2.2.1 hb.size, Nat.lt_of_lt_of_le h.2.2.2.2.2.2 hb.size⟩
theorem Tb.far {b : Nat} {W : World} {g1 g2 c1 c2 n1 n2 : Nat} {l1 l2 : List S79} (h : Tb b W g1 g2 c1 c2 n1 n2 l1 l2) (p : Addr) (v : Value) (h1 : g1 ≠ p.block) (h2 : g2 ≠ p.block) : Tb b (W.setCell p v) g1 g2 c1 c2 n1 n2 l1 l2 :=
 ⟨Kd.R_far h.1 (fun k hk => by rw [hk]; exact h1) v, Kd.R_far h.2.1 (fun k hk => by rw [hk]; exact h2) v, h.2.2.1, h.2.2.2.1, h.2.2.2.2.1, by rw [setCell_size]; exact h.2.2.2.2.2.1, by rw [setCell_size]; exact h.2.2.2.2.2.2⟩
/-- A slot's three cells. -/
def set3 (W : World) (g j : Nat) (x : S79) : World := ((W.setCell ⟨g, j, none⟩ (.bool x.f0)).setCell ⟨g, j + 1, none⟩ (.int .i64 x.f1)).setCell ⟨g, j + 2, none⟩ (.int .i64 x.f2)
theorem row_set3 {b : Nat} {W : World} {g c n : Nat} {l : List S79} (h : Kd.R k79 79 W b (fun k => k = g) (.slice (some ⟨g, 0, none⟩) n c) l) (i : Int) (h0 : 0 ≤ i) (h1 : i < (n : Int)) (x : S79) :
  Kd.R k79 79 (set3 W g (i.toNat * 3) x) b (fun k => k = g) (.slice (some ⟨g, 0, none⟩) n c) (l.set i.toNat x) := by
 obtain ⟨ce, hcl, hM, hcc, hfr⟩ := Kd.R_elem h z79 i h0 h1
 obtain rfl := k79_openM hM
 exact (Kd.R_seg h i h0 h1 (seg := [.bool x.f0, .int .i64 x.f1, .int .i64 x.f2]) (j := 0) hcl hcc (show 3 ≤ 3 from by decide) (x' := x) (k79_mkM _ _ _ x) (fun _ hk => hk)).1
theorem Tb.put1 {b : Nat} {W : World} {g1 g2 c1 c2 n1 n2 : Nat} {l1 l2 : List S79} (h : Tb b W g1 g2 c1 c2 n1 n2 l1 l2) (i : Int) (h0 : 0 ≤ i) (h1 : i < (n1 : Int)) (x : S79) : Tb b (set3 W g1 (i.toNat * 3) x) g1 g2 c1 c2 n1 n2 (l1.set i.toNat x) l2 :=
 ⟨row_set3 h.1 i h0 h1 x, Kd.R_far (Kd.R_far (Kd.R_far h.2.1 (fun k hk => by rw [hk]; exact h.2.2.1.symm) _) (fun k hk => by rw [hk]; exact h.2.2.1.symm) _) (fun k hk => by rw [hk]; exact h.2.2.1.symm) _, h.2.2.1, h.2.2.2.1, h.2.2.2.2.1, by unfold set3; simp only [setCell_size]; exact h.2.2.2.2.2.1, by unfold set3; simp only [setCell_size]; exact h.2.2.2.2.2.2⟩
theorem Tb.put2 {b : Nat} {W : World} {g1 g2 c1 c2 n1 n2 : Nat} {l1 l2 : List S79} (h : Tb b W g1 g2 c1 c2 n1 n2 l1 l2) (i : Int) (h0 : 0 ≤ i) (h1 : i < (n2 : Int)) (x : S79) : Tb b (set3 W g2 (i.toNat * 3) x) g1 g2 c1 c2 n1 n2 l1 (l2.set i.toNat x) :=
 ⟨Kd.R_far (Kd.R_far (Kd.R_far h.1 (fun k hk => by rw [hk]; exact h.2.2.1) _) (fun k hk => by rw [hk]; exact h.2.2.1) _) (fun k hk => by rw [hk]; exact h.2.2.1) _, row_set3 h.2.1 i h0 h1 x, h.2.2.1, h.2.2.2.1, h.2.2.2.2.1, by unfold set3; simp only [setCell_size]; exact h.2.2.2.2.2.1, by unfold set3; simp only [setCell_size]; exact h.2.2.2.2.2.2⟩
/-- A slot, laid open. -/
theorem row_open {b : Nat} {W : World} {ok : Nat → Prop} {g c n : Nat} {l : List S79} (h : Kd.R k79 79 W b ok (.slice (some ⟨g, 0, none⟩) n c) l) (i : Int) (h0 : 0 ≤ i) (h1 : i < (n : Int)) :
  (W.cell? ⟨g, i.toNat * 3, none⟩ = some (.bool (rd_T79 l i).f0) ∧ W.cell? ⟨g, i.toNat * 3 + 1, none⟩ = some (.int .i64 (rd_T79 l i).f1) ∧ W.cell? ⟨g, i.toNat * 3 + 2, none⟩ = some (.int .i64 (rd_T79 l i).f2)) ∧
  W.frozen? ⟨g, i.toNat * 3, none⟩ = false ∧ W.frozen? ⟨g, i.toNat * 3 + 1, none⟩ = false ∧ W.frozen? ⟨g, i.toNat * 3 + 2, none⟩ = false := by
 obtain ⟨ce, hcl, hM, hcc, hfr⟩ := Kd.R_elem h z79 i h0 h1
 obtain rfl := k79_openM hM
 exact ⟨⟨hcc 0 _ rfl, hcc 1 _ rfl, hcc 2 _ rfl⟩, hfr 0, hfr 1, hfr 2⟩
theorem blk_set3 {W : World} {g a j : Nat} {t : TypeId} {cs : Array Value} (h : W.heap[a]? = some (.cells cs t (0, 0))) (hn : a ≠ g) (x : S79) : (set3 W g j x).heap[a]? = some (.cells cs t (0, 0)) :=
 blk_far (blk_far (blk_far h hn _) hn _) hn _
theorem below_set3 {w W : World} {g j : Nat} {x : S79} (h : Below w.heap.size w W) (hg : w.heap.size ≤ g) : Below w.heap.size w (set3 W g j x) := below_set (below_set (below_set h hg) hg) hg
/-- The rows that a copy of a table made. -/
theorem Tb.of {b : Nat} {W : World} {v1 v2 : Value} {l1 l2 : List S79} (h1 : Kd.R k79 79 W b (fun k_ => some k_ ≠ (v2 : Value).ownBlock) v1 l1) (h2 : Kd.R k79 79 W b (fun k_ => some k_ ≠ (v1 : Value).ownBlock) v2 l2) (p1 : 0 < l1.length) (p2 : 0 < l2.length) :
  ∃ g1 g2 c1 c2, v1 = .slice (some ⟨g1, 0, none⟩) l1.length c1 ∧ v2 = .slice (some ⟨g2, 0, none⟩) l2.length c2 ∧ Tb b W g1 g2 c1 c2 l1.length l2.length l1 l2 := by
 obtain ⟨g1, c1, rfl, hb1, hl1, _⟩ := Kd.R_form h1 p1
 obtain ⟨g2, c2, rfl, hb2, hl2, _⟩ := Kd.R_form h2 p2
 have hne : g1 ≠ g2 := fun e => h1.1 g1 rfl (by rw [e]; rfl)
 refine ⟨g1, g2, c1, c2, rfl, rfl, Kd.R_mono (Kd.R_tight rfl h1) (fun k hk => ?_), Kd.R_mono (Kd.R_tight rfl h2) (fun k hk => ?_), hne, hb1, hb2, hl1, hl2⟩
 ·simpa [Value.ownBlock] using hk
 ·simpa [Value.ownBlock] using hk
/-- .. and as they are handed back. -/
theorem Tb.back {b : Nat} {W : World} {g1 g2 c1 c2 n1 n2 : Nat} {l1 l2 : List S79} (h : Tb b W g1 g2 c1 c2 n1 n2 l1 l2) :
  Kd.R k79 79 W b (fun k_ => some k_ ≠ (.slice (some ⟨g2, 0, none⟩) n2 c2 : Value).ownBlock) (.slice (some ⟨g1, 0, none⟩) n1 c1) l1 ∧ Kd.R k79 79 W b (fun k_ => some k_ ≠ (.slice (some ⟨g1, 0, none⟩) n1 c1 : Value).ownBlock) (.slice (some ⟨g2, 0, none⟩) n2 c2) l2 :=
 ⟨Kd.R_mono h.1 (fun k hk => by rw [hk]; simpa [Value.ownBlock] using h.2.2.1), Kd.R_mono h.2.1 (fun k hk => by rw [hk]; simpa [Value.ownBlock] using h.2.2.1.symm)⟩
theorem open4 {W : World} {g : Nat} {t : TypeId} {a b c d : Value} (h : W.heap[g]? = some (.cells #[a, b, c, d] t (0, 0))) : (W.cell? ⟨g, 0, none⟩ = some a ∧ W.cell? ⟨g, 1, none⟩ = some b ∧ W.cell? ⟨g, 2, none⟩ = some c ∧ W.cell? ⟨g, 3, none⟩ = some d) ∧ W.frozen? ⟨g, 0, none⟩ = false ∧ W.frozen? ⟨g, 1, none⟩ = false ∧ W.frozen? ⟨g, 2, none⟩ = false ∧ W.frozen? ⟨g, 3, none⟩ = false :=
 ⟨⟨(blk_cell h 0).trans rfl, (blk_cell h 1).trans rfl, (blk_cell h 2).trans rfl, (blk_cell h 3).trans rfl⟩, blk_frozen h 0, blk_frozen h 1, blk_frozen h 2, blk_frozen h 3⟩
theorem open3 {W : World} {g : Nat} {t : TypeId} {a b c : Value} (h : W.heap[g]? = some (.cells #[a, b, c] t (0, 0))) : (W.cell? ⟨g, 0, none⟩ = some a ∧ W.cell? ⟨g, 1, none⟩ = some b ∧ W.cell? ⟨g, 2, none⟩ = some c) ∧ W.frozen? ⟨g, 0, none⟩ = false ∧ W.frozen? ⟨g, 1, none⟩ = false ∧ W.frozen? ⟨g, 2, none⟩ = false :=
 ⟨⟨(blk_cell h 0).trans rfl, (blk_cell h 1).trans rfl, (blk_cell h 2).trans rfl⟩, blk_frozen h 0, blk_frozen h 1, blk_frozen h 2⟩
section
variable {W W' : World} {g a : Nat} {t : TypeId} {cs : Array Value} {v0 v1 v2 v3 : Value}
theorem far4 (hw : W' = (((W.setCell ⟨g, 0, none⟩ v0).setCell ⟨g, 1, none⟩ v1).setCell ⟨g, 2, none⟩ v2).setCell ⟨g, 3, none⟩ v3) (h : W.heap[a]? = some (.cells cs t (0, 0))) (hn : a ≠ g) : W'.heap[a]? = some (.cells cs t (0, 0)) := by
 rw [hw]
 exact blk_far (blk_far (blk_far (blk_far h hn _) hn _) hn _) hn _
theorem put4 (hw : W' = (((W.setCell ⟨g, 0, none⟩ v0).setCell ⟨g, 1, none⟩ v1).setCell ⟨g, 2, none⟩ v2).setCell ⟨g, 3, none⟩ v3) {a b c d : Value} (h : W.heap[g]? = some (.cells #[a, b, c, d] t (0, 0))) : W'.heap[g]? = some (.cells #[v0, v1, v2, v3] t (0, 0)) := by
 rw [hw]
 exact blk_put (blk_put (blk_put (blk_put h 0 v0 rfl) 1 v1 rfl) 2 v2 rfl) 3 v3 rfl
theorem below4 {w : World} (hw : W' = (((W.setCell ⟨g, 0, none⟩ v0).setCell ⟨g, 1, none⟩ v1).setCell ⟨g, 2, none⟩ v2).setCell ⟨g, 3, none⟩ v3) (h : Below w.heap.size w W) (hg : w.heap.size ≤ g) : Below w.heap.size w W' := by
 rw [hw]
 exact below_set (below_set (below_set (below_set h hg) hg) hg) hg
theorem tb4 {b g1 g2 c1 c2 n1 n2 : Nat} {l1 l2 : List S79} (hw : W' = (((W.setCell ⟨g, 0, none⟩ v0).setCell ⟨g, 1, none⟩ v1).setCell ⟨g, 2, none⟩ v2).setCell ⟨g, 3, none⟩ v3) (h : Tb b W g1 g2 c1 c2 n1 n2 l1 l2) (h1 : g1 ≠ g) (h2 : g2 ≠ g) : Tb b W' g1 g2 c1 c2 n1 n2 l1 l2 := by
 rw [hw]
 exact (((h.far _ _ h1 h2).far _ _ h1 h2).far _ _ h1 h2).far _ _ h1 h2
theorem row4 {α : Type} {d : Kd α} {e base : Nat} {ok : Nat → Prop} {v : Value} {xs : List α} (hw : W' = (((W.setCell ⟨g, 0, none⟩ v0).setCell ⟨g, 1, none⟩ v1).setCell ⟨g, 2, none⟩ v2).setCell ⟨g, 3, none⟩ v3) (h : d.R e W base ok v xs) (hb : W.heap[g]? = some (.cells cs t (0, 0))) (ht : ∀ q, q ∈ e :: d.E → q ≠ t) : d.R e W' base ok v xs := by
 rw [hw]
 exact Kd.R_mono (Kd.R_far (p := ⟨g, 3, none⟩) (Kd.R_far (p := ⟨g, 2, none⟩) (Kd.R_far (p := ⟨g, 1, none⟩) (Kd.R_far (p := ⟨g, 0, none⟩) (Kd.R_types h hb ht) (fun _ hk => hk.2) v0) (fun _ hk => hk.2) v1) (fun _ hk => hk.2) v2) (fun _ hk => hk.2) v3) (fun _ hk => hk.1)
end
theorem far1 {W W' : World} {p : Addr} {v : Value} {a : Nat} {t : TypeId} {cs : Array Value} (hw : W' = W.setCell p v) (h : W.heap[a]? = some (.cells cs t (0, 0))) (hn : a ≠ p.block) : W'.heap[a]? = some (.cells cs t (0, 0)) := by
 rw [hw]
 exact blk_far h hn _
theorem below1 {w W W' : World} {g j : Nat} {v : Value} (hw : W' = W.setCell ⟨g, j, none⟩ v) (h : Below w.heap.size w W) (hg : w.heap.size ≤ g) : Below w.heap.size w W' := by
 rw [hw]
 exact below_set h hg
theorem tb1 {W W' : World} {p : Addr} {v : Value} {b g1 g2 c1 c2 n1 n2 : Nat} {l1 l2 : List S79} (hw : W' = W.setCell p v) (h : Tb b W g1 g2 c1 c2 n1 n2 l1 l2) (h1 : g1 ≠ p.block) (h2 : g2 ≠ p.block) : Tb b W' g1 g2 c1 c2 n1 n2 l1 l2 := by
 rw [hw]
 exact h.far _ _ h1 h2
theorem far3 {W W' : World} {g j a : Nat} {x : S79} {t : TypeId} {cs : Array Value} (hw : W' = set3 W g j x) (h : W.heap[a]? = some (.cells cs t (0, 0))) (hn : a ≠ g) : W'.heap[a]? = some (.cells cs t (0, 0)) := by
 rw [hw]
 exact blk_set3 h hn _
theorem impl_Table_find.range {a0 : Int} {l1 l2 : List S79} {a1 s i : Int} (h : impl_Table_find.f a0 l1 l2 a1 = some (s, i)) : 0 < l1.length ∧ 0 < l2.length ∧ ((s = 1 ∧ 0 ≤ i ∧ i < (l1.length : Int)) ∨ (s = 2 ∧ 0 ≤ i ∧ i < (l2.length : Int)) ∨ (s = 0 ∧ i = 0)) := by
 obtain ⟨⟨p, q⟩, hp, h⟩ := Option.bind_eq_some_iff.mp h
 by_cases hin : (0 ≤ p ∧ p < (l1.length : Int)) ∧ 0 ≤ q ∧ q < (l2.length : Int)
 ·simp only [if_pos hin] at h
  refine ⟨by omega, by omega, ?_⟩
  split at h
  ·simp only [Option.some.injEq, Prod.mk.injEq] at h
   omega
  ·split at h
   ·simp only [Option.some.injEq, Prod.mk.injEq] at h
    omega
   ·simp only [Option.some.injEq, Prod.mk.injEq] at h
    omega
 ·simp only [if_neg hin] at h
  cases h

/-! ### impl_Slot: function 87 -/
def impl_Slot.f (l0 : List (S79)) : Option ((List (S79))) := (some (([] : List (S79)) : List (S79))).bind fun y327 => (if y327.length + l0.length < 5864062014805 then (some (y327 ++ l0)) else (none))
set_option maxHeartbeats 8000000 in
set_option maxRecDepth 100000 in
theorem impl_Slot.calls (A0 : Option Addr) (c0 : Nat) (l0 : List (S79)) (r : List (S79)) (w : World) (hr0 : Kd.C k79 w A0 l0.length l0) (hc0 : l0.length ≤ c0) (h : impl_Slot.f l0 = some r) :
  Calls Try.prog 87 #[.slice A0 l0.length c0] w fun e w' => ∃ v0_ : Value, e = .returned (v0_) ∧ Kd.R k79 79 w' w.heap.size (fun _ => True) v0_ r ∧ Below w.heap.size w w' := by
 rcases A0 with _ | ad
 ·have hty := Try.underlying23
  have e0 : l0 = [] := by
   rcases l0 with _ | ⟨x, t⟩
   ·rfl
   ·obtain ⟨_, e_, _⟩ := hr0.2.2 (by simp)
    cases e_
  subst e0
  have er : r = [] := by
   unfold impl_Slot.f at h
   simpa using h.symm
  subst er
  have heql : ∀ (W : World) (n c : Nat), (Go.binOp .eql 23 (.slice none n c) (.slice none 0 0)).run Try.prog W = .ok (.bool true) W := fun W n c => by first | exact Lib.run_eql_slice_nil W 23 79 none n c 0 0 Try.underlying23 | exact Lib.run_eql_slice_nil W _ _ none n c (by assumption)
  clear h hr0 hc0 hty
  go_enter Try.func87, Try.ntmps87
  go_wp2
  go_ret
  exact ⟨_, rfl, Kd.R_nil _ _ _ _ _, Below.refl _ _⟩
 have hty := Try.underlying23
 have heql : ∀ (W : World) (n c : Nat), (Go.binOp .eql 23 (.slice (some ad) n c) (.slice none 0 0)).run Try.prog W = .ok (.bool false) W := fun W n c => by first | exact Lib.run_eql_slice_nil W 23 79 (some ad) n c 0 0 Try.underlying23 | exact Lib.run_eql_slice_nil W _ _ (some ad) n c (by assumption)
 clear hty
 have HR0 := Aside0.mk hr0
 have HC0 := Aside0.mk hc0
 clear hr0 hc0
 have HB := Aside0.mk (Below.refl w.heap.size w)
 have H : ((some (([] : List (S79)) : List (S79))).bind fun y327 => (if y327.length + l0.length < 5864062014805 then (some (y327 ++ l0)) else (none))) = some r := h
 clear h
 obtain ⟨y327, hy327⟩ : ∃ y_ : List (S79), y_ = (([] : List (S79))) := ⟨_, rfl⟩
 replace H : (if y327.length + l0.length < 5864062014805 then (some (y327 ++ l0)) else (none)) = some r := by first | (rw [hy327]; with_reducible exact H) | (have H2_ := (Option.bind_some _ _).symm.trans H; rw [hy327]; with_reducible exact H2_) | (have H2_ := (Option.bind_some _ _).symm.trans H; with_reducible exact H2_) | with_reducible exact H | (rw [hy327]; exact H) | exact H
 have Ny327 := Aside0.mk hy327
 clear hy327
 by_cases c2 : y327.length + l0.length < 5864062014805
 ·rw [if_pos c2] at H
  have LMc2 := Aside0.mk c2
  clear c2
  obtain ⟨y330, hy330⟩ : ∃ y_ : List (S79), y_ = (y327 ++ l0) := ⟨_, rfl⟩
  replace H : (some y330) = some r := by first | (rw [hy330]; with_reducible exact H) | (have H2_ := (Option.bind_some _ _).symm.trans H; rw [hy330]; with_reducible exact H2_) | (have H2_ := (Option.bind_some _ _).symm.trans H; with_reducible exact H2_) | with_reducible exact H | (rw [hy330]; exact H) | exact H
  have Ny330 := Aside0.mk hy330
  clear hy330
  obtain rfl := Option.some.inj H
  go_enter Try.func87, Try.ntmps87
  go_wp2_with (first | ((with_reducible refine gate_dst (N := 5) rfl ?_); refine Kd.R_lit k79 _ 79 ?hg (N := 5) ?hd (xs := ([] : List (S79))) (inner := []) (ok := fun _ => True) (okp := fun _ => True) ?hr ?hp (fun _ hk => hk) trivial (Below.refl _ _) (Nat.le_refl _) (by simp) ?_; (case hd => rfl); (case hg => rfl); (case hr => first | (go_simp; done) | (go_simp; rfl)); (case hp => exact (Reps.none _ _)); intro v328 w3 ho4 hb hg_ hnew_; clear hg_ hnew_; (first | rw [← Ny327.out] at ho4 | (simp only [Int.reduceToNat] at ho4; rw [← Ny327.out] at ho4)); have HO329 := Aside0.mk (Kd.R_lower ho4 (below_size (bB HB))); replace HB := Aside0.mk (below_step (bB HB) hb); clear hb ho4) | ((with_reducible refine gate_builtin (b := .append) (xs := #[.tmp 5, .tmp 6]) rfl ?_); at_builtin; refine Kd.R_append_rows k79 (w0 := w) w.heap.size rfl (.tmp 5) (.tmp 6) 23 79 (.agg #[(.bool false), (.int .i64 0), (.int .i64 0)]) 24 rfl Try.underlying23 info79 rfl (by decide) (by omega) v328 y327 l0 _ _ _ (fun _ => True) (fun _ => False) rfl rfl ?aO ?aR (fun _ _ h => h) (fun _ h => h.elim) ?aF ?aB ?aS ?aL ?_; (case aR => repeat (first | exact (Kd.C_below HR0.out HB.out) | (with_reducible refine Kd.C_alloc ?_ _) | (with_reducible refine Kd.C_drewN ?_ _) | (with_reducible refine Kd.C_drew ?_))); (case aB => exact (bB HB)); (case aF => exact (fun _ _ => trivial)); (case aO => exact (aR HO329)); (case aS => exact (below_size (bB HB))); (case aL => have := LMc2.out; omega); intro v331 w5 ho hb hg hat; rw [← Ny330.out] at ho; replace HB := Aside0.mk (hb); have HO332 := Aside0.mk (ho); clear HO329; clear ho hb hg hat))
  go_ret
  exact ⟨_, by first | rfl | (simp [errW_none, errW_some] <;> rfl) | (simp [*, errW_none, errW_some] <;> rfl), by (with_reducible repeat (first | apply Kd.R_alloc | apply Kd.R_drewN | apply Kd.R_drew)); exact HO332.out, bB HB⟩
 ·rw [if_neg c2] at H
  exact absurd H (by simp)

/-! ### impl_ownTable: function 80 -/
def impl_ownTable.f (a0_0 : Int) (l0_1 : List (S79)) (l0_2 : List (S79)) (a0_3 : Int) : Option (Int × (List (S79)) × (List (S79)) × Int) := (impl_Slot.f l0_1).bind fun t335 => ((impl_Slot.f l0_2).bind fun t338 => (some (a0_0, t335, t338, a0_3)))
def impl_ownTable.T1 : Bool × List (List Nat × List Nat) := (true, [([], []), ([0], [0]), ([], []), ([2], [2]), ([3], [3]), ([], []), ([5], [5]), ([6, 4], [6]), ([], []), ([8], [8]), ([1, 4, 7, 9], [1, 4, 7, 9]), ([10, 7, 0, 1, 2, 3, 4, 5, 6, 7, 8, 9, 10], [10])])
def impl_ownTable.B1 : List Nat := [0, 1, 0, 4, 12, 0, 32, 124, 0, 256, 1023, 2047]
theorem impl_ownTable.tab1 : rtab .any (opsOf Try.f80 1) = impl_ownTable.T1 := by kernel_rfl
theorem impl_ownTable.bits1 : waitsOk impl_ownTable.T1.2 impl_ownTable.B1 = true := by kernel_rfl
set_option maxHeartbeats 8000000 in
set_option maxRecDepth 100000 in
theorem impl_ownTable.calls (a0_0 : Int) (A0_1 : Option Addr) (c0_1 : Nat) (l0_1 : List (S79)) (A0_2 : Option Addr) (c0_2 : Nat) (l0_2 : List (S79)) (a0_3 : Int) (r1 : Int) (r2 : List (S79)) (r3 : List (S79)) (r4 : Int) (w : World) (hr0_1 : Kd.C k79 w A0_1 l0_1.length l0_1) (hc0_1 : l0_1.length ≤ c0_1) (hr0_2 : Kd.C k79 w A0_2 l0_2.length l0_2) (hc0_2 : l0_2.length ≤ c0_2) (h : impl_ownTable.f a0_0 l0_1 l0_2 a0_3 = some (r1, r2, r3, r4)) :
  Calls Try.prog 80 #[.agg #[.int .i64 a0_0, .slice A0_1 l0_1.length c0_1, .slice A0_2 l0_2.length c0_2, .int .i64 a0_3]] w fun e w' => ∃ v1_ v2_ : Value, e = .returned (.agg #[.int .i64 r1, v1_, v2_, .int .i64 r4]) ∧ Kd.R k79 79 w' w.heap.size (fun k_ => some k_ ≠ (v2_ : Value).ownBlock) v1_ r2 ∧ Kd.R k79 79 w' w.heap.size (fun k_ => some k_ ≠ (v1_ : Value).ownBlock) v2_ r3 ∧ Below w.heap.size w w' := by
 have hu25 := Try.underlying25
 have HR0_1 := Aside0.mk hr0_1
 have HC0_1 := Aside0.mk hc0_1
 clear hr0_1 hc0_1
 have HR0_2 := Aside0.mk hr0_2
 have HC0_2 := Aside0.mk hc0_2
 clear hr0_2 hc0_2
 have HB := Aside0.mk (Below.refl w.heap.size w)
 have H : ((impl_Slot.f l0_1).bind fun t335 => ((impl_Slot.f l0_2).bind fun t338 => (some (a0_0, t335, t338, a0_3)))) = some (r1, r2, r3, r4) := h
 clear h
 replace H := Option.bind_eq_some_iff.mp H
 obtain ⟨t335, A20, H⟩ := H
 replace H : ((impl_Slot.f l0_2).bind fun t338 => (some (a0_0, t335, t338, a0_3))) = some (r1, r2, r3, r4) := H
 have A2 := Aside0.mk A20
 clear A20
 replace H := Option.bind_eq_some_iff.mp H
 obtain ⟨t338, A30, H⟩ := H
 replace H : (some (a0_0, t335, t338, a0_3)) = some (r1, r2, r3, r4) := H
 have A3 := Aside0.mk A30
 clear A30
 simp only [Option.some.injEq, Prod.mk.injEq] at H
 obtain ⟨rfl, rfl, rfl, rfl⟩ := H
 go_enter Try.func80, Try.ntmps80
 try go_wp2_with (first | ((with_reducible refine gate_dst (N := 1) rfl ?_); refine box_event ?hg (N := 1) ?hd (cs := #[.int .i64 a0_0, .slice A0_1 l0_1.length c0_1, .slice A0_2 l0_2.length c0_2, .int .i64 a0_3]) (t := 25) ?hr ?_; (case hd => rfl); (case hg => rfl); (case hr => first | (go_simp; done) | (go_simp; rfl)); intro gb333 hg w4 hbox hb; have BK333 := Aside0.mk (hbox); have GW333 := Aside0.mk ((by rw [hg]; exact (below_size (bB HB)) : w.heap.size ≤ gb333)); have GE333 := Aside0.mk ((by rw [hg]; exact (below_size (bB HB)) : w.heap.size ≤ gb333)); replace HB := Aside0.mk (below_step (bB HB) hb); clear hb hbox hg) | ((with_reducible refine gate_dst (N := 2) rfl ?_); refine box_event ?hg (N := 2) ?hd (cs := #[.int .i64 0, .slice none 0 0, .slice none 0 0, .int .i64 0]) (t := 25) ?hr ?_; (case hd => rfl); (case hg => rfl); (case hr => first | (go_simp; done) | (go_simp; rfl)); intro gb334 hg w5 hbox hb; have BK334 := Aside0.mk (hbox); have GW334 := Aside0.mk ((by rw [hg]; exact (below_size (bB HB)) : w.heap.size ≤ gb334)); have GE334 := Aside0.mk ((by rw [hg]; exact (below_size (bB HB)) : w.heap.size ≤ gb334)); replace HB := Aside0.mk (below_step (bB HB) hb); have NB333_334 := Aside0.mk ((by rw [hg]; exact Nat.ne_of_lt (blk_lt (g := gb333) (o := .cells #[.int .i64 a0_0, .slice A0_1 l0_1.length c0_1, .slice A0_2 l0_2.length c0_2, .int .i64 a0_3] 25 (0, 0)) (kB BK333)) : gb333 ≠ gb334)); have NB334_333 := Aside0.mk ((by rw [hg]; exact Nat.ne_of_gt (blk_lt (g := gb333) (o := .cells #[.int .i64 a0_0, .slice A0_1 l0_1.length c0_1, .slice A0_2 l0_2.length c0_2, .int .i64 a0_3] 25 (0, 0)) (kB BK333)) : gb334 ≠ gb333)); replace BK333 := Aside0.mk (blk_below (g := gb333) (o := .cells #[.int .i64 a0_0, .slice A0_1 l0_1.length c0_1, .slice A0_2 l0_2.length c0_2, .int .i64 a0_3] 25 (0, 0)) (kB BK333) hb); clear hb hbox hg))
 replace BK333 := Aside0.mk (blk_drew BK333.out)
 replace BK334 := Aside0.mk (blk_drew BK334.out)
 replace HB := Aside0.mk (below_drew1 HB.out)
 refine start_ (n := 12) (S := fun w' => w'.cell? ⟨gb333, 0, none⟩ = some (.int .i64 a0_0) ∧ w'.cell? ⟨gb333, 1, none⟩ = some (.slice A0_1 l0_1.length c0_1) ∧ w'.cell? ⟨gb333, 2, none⟩ = some (.slice A0_2 l0_2.length c0_2) ∧ w'.cell? ⟨gb333, 3, none⟩ = some (.int .i64 a0_3)) (ds := []) #[false, false, false, false, false, false, false, false, false, false, false, false] (by kernel_rfl) rfl rfl ⟨(blk_cell BK333.out 0).trans rfl, (blk_cell BK333.out 1).trans rfl, (blk_cell BK333.out 2).trans rfl, (blk_cell BK333.out 3).trans rfl⟩ (fun hHeld => ?_); refine with_tabW impl_ownTable.tab1 impl_ownTable.bits1 (fun HT_ HW_ => ?_)
 generalize w5.drew = w6 at BK333 BK334 HB hHeld ⊢
 refine pure_ (i := 0) (N := some 3) (v := ?_) (a' := ?_) #[true, false, false, false, false, false, false, false, false, false, false, false] rfl rfl (any_of HT_.out (by kernel_rfl)) (fun _ _ _ h => h) (Or.inl ⟨by rfl, ?_⟩) ?_ ?_
 rotate_left
 ·intro w'
  go_simp
  with_reducible rfl
 rotate_left
 ·simp only [Act.put, List.setIfInBounds_toArray, List.set_cons_zero, List.set_cons_succ, i64_w, i32_w]
  rfl
 refine pure_ (i := 2) (N := some 5) (v := ?_) (a' := ?_) #[true, false, true, false, false, false, false, false, false, false, false, false] rfl rfl (any_of HT_.out (by kernel_rfl)) (fun _ _ _ h => h) (Or.inl ⟨by rfl, ?_⟩) ?_ ?_
 rotate_left
 ·intro w'
  go_simp
  with_reducible rfl
 rotate_left
 ·simp only [Act.put, List.setIfInBounds_toArray, List.set_cons_zero, List.set_cons_succ, i64_w, i32_w]
  rfl
 refine pure_ (i := 5) (N := some 8) (v := ?_) (a' := ?_) #[true, false, true, false, false, true, false, false, false, false, false, false] rfl rfl (any_of HT_.out (by kernel_rfl)) (fun _ _ _ h => h) (Or.inl ⟨by rfl, ?_⟩) ?_ ?_
 rotate_left
 ·intro w'
  go_simp
  with_reducible rfl
 rotate_left
 ·simp only [Act.put, List.setIfInBounds_toArray, List.set_cons_zero, List.set_cons_succ, i64_w, i32_w]
  rfl
 refine pure_ (i := 8) (N := some 11) (v := ?_) (a' := ?_) #[true, false, true, false, false, true, false, false, true, false, false, false] rfl rfl (any_of HT_.out (by kernel_rfl)) (fun _ _ _ h => h) (Or.inl ⟨by rfl, ?_⟩) ?_ ?_
 rotate_left
 ·intro w'
  go_simp
  with_reducible rfl
 rotate_left
 ·simp only [Act.put, List.setIfInBounds_toArray, List.set_cons_zero, List.set_cons_succ, i64_w, i32_w]
  rfl
 refine take_ (i := 1) (N := some 4) (v := ?_) (a' := ?_) #[true, true, true, false, false, true, false, false, true, false, false, false] rfl rfl (take_ofW HT_.out HW_.out (by kernel_rfl)) (fun _ _ _ h => h) (Or.inl ⟨by rfl, ?_⟩) hHeld ?_ ?_
 rotate_left
 ·rintro w' ⟨s0, s1, s2, s3⟩
  go_simp
  with_reducible rfl
 rotate_left
 ·simp only [Act.put, List.setIfInBounds_toArray, List.set_cons_zero, List.set_cons_succ, i64_w, i32_w]
  rfl
 refine take_ (i := 3) (N := some 6) (v := ?_) (a' := ?_) #[true, true, true, true, false, true, false, false, true, false, false, false] rfl rfl (take_ofW HT_.out HW_.out (by kernel_rfl)) (fun _ _ _ h => h) (Or.inl ⟨by rfl, ?_⟩) hHeld ?_ ?_
 rotate_left
 ·rintro w' ⟨s0, s1, s2, s3⟩
  go_simp
  with_reducible rfl
 rotate_left
 ·simp only [Act.put, List.setIfInBounds_toArray, List.set_cons_zero, List.set_cons_succ, i64_w, i32_w]
  rfl
 refine take_ (i := 6) (N := some 9) (v := ?_) (a' := ?_) #[true, true, true, true, false, true, true, false, true, false, false, false] rfl rfl (take_ofW HT_.out HW_.out (by kernel_rfl)) (fun _ _ _ h => h) (Or.inl ⟨by rfl, ?_⟩) hHeld ?_ ?_
 rotate_left
 ·rintro w' ⟨s0, s1, s2, s3⟩
  go_simp
  with_reducible rfl
 rotate_left
 ·simp only [Act.put, List.setIfInBounds_toArray, List.set_cons_zero, List.set_cons_succ, i64_w, i32_w]
  rfl
 refine take_ (i := 9) (N := some 12) (v := ?_) (a' := ?_) #[true, true, true, true, false, true, true, false, true, true, false, false] rfl rfl (take_ofW HT_.out HW_.out (by kernel_rfl)) (fun _ _ _ h => h) (Or.inl ⟨by rfl, ?_⟩) hHeld ?_ ?_
 rotate_left
 ·rintro w' ⟨s0, s1, s2, s3⟩
  go_simp
  with_reducible rfl
 rotate_left
 ·simp only [Act.put, List.setIfInBounds_toArray, List.set_cons_zero, List.set_cons_succ, i64_w, i32_w]
  rfl
 refine one_ (i := 4) (N := some 7) #[true, true, true, true, true, true, true, false, true, true, false, false] rfl rfl (one_of HT_.out (by kernel_rfl)) (by decide) (fun K hK => ?_)
 refine goes_ Try.func87 (by kernel_rfl) rfl #[.slice A0_1 l0_1.length c0_1] (by rfl) rfl rfl (by (try simp only [List.map_toArray, List.map_cons, List.map_nil]); first | done | rfl | (simp only [List.length_drop, List.length_take]; rfl)) ?_
 with_reducible refine (impl_Slot.calls _ _ l0_1 t335 _ ?side1 ?side2 A2.out).mono ?_
 (case side1 => repeat (first | exact (Kd.C_below HR0_1.out HB.out) | (with_reducible refine Kd.C_alloc ?_ _) | (with_reducible refine Kd.C_drewN ?_ _) | (with_reducible refine Kd.C_drew ?_)))
 (case side2 => exact HC0_1.out)
 rintro e w7 ⟨v336, rfl, ho0, hb⟩
 refine ⟨_, rfl, ?_⟩
 have HO337 := Aside0.mk (Kd.R_lower ho0 (below_size (bB HB)))
 replace BK333 := Aside0.mk (blk_below (g := gb333) (o := .cells #[.int .i64 a0_0, .slice A0_1 l0_1.length c0_1, .slice A0_2 l0_2.length c0_2, .int .i64 a0_3] 25 (0, 0)) (kB BK333) hb)
 replace BK334 := Aside0.mk (blk_below (g := gb334) (o := .cells #[.int .i64 0, .slice none 0 0, .slice none 0 0, .int .i64 0] 25 (0, 0)) (kB BK334) hb)
 replace HB := Aside0.mk (below_step (bB HB) hb)
 (try clear hb);(try clear hb2);(try clear hk);(try clear hi);(try clear ho0)
 refine hK.out _ _ ⟨(blk_cell BK333.out 0).trans rfl, (blk_cell BK333.out 1).trans rfl, (blk_cell BK333.out 2).trans rfl, (blk_cell BK333.out 3).trans rfl⟩ (fun hHeld => ?_)
 clear hK K
 refine norm_ (a' := ?_) ?_ ?_
 rotate_left
 ·show Act.put _ (some 7) _ = _
  simp only [Act.put, List.setIfInBounds_toArray, List.set_cons_zero, List.set_cons_succ, i64_w, i32_w]
  rfl
 refine one_ (i := 7) (N := some 10) #[true, true, true, true, true, true, true, true, true, true, false, false] rfl rfl (one_of HT_.out (by kernel_rfl)) (by decide) (fun K hK => ?_)
 refine goes_ Try.func87 (by kernel_rfl) rfl #[.slice A0_2 l0_2.length c0_2] (by rfl) rfl rfl (by (try simp only [List.map_toArray, List.map_cons, List.map_nil]); first | done | rfl | (simp only [List.length_drop, List.length_take]; rfl)) ?_
 with_reducible refine (impl_Slot.calls _ _ l0_2 t338 _ ?side1 ?side2 A3.out).mono ?_
 (case side1 => repeat (first | exact (Kd.C_below HR0_2.out HB.out) | (with_reducible refine Kd.C_alloc ?_ _) | (with_reducible refine Kd.C_drewN ?_ _) | (with_reducible refine Kd.C_drew ?_)))
 (case side2 => exact HC0_2.out)
 rintro e w8 ⟨v339, rfl, ho0, hb⟩
 refine ⟨_, rfl, ?_⟩
 have HO340 := Aside0.mk (Kd.R_lower (Kd.R_new' ho0 (Kd.R_lt (aR HO337))) (below_size (bB HB)))
 replace HO337 := Aside0.mk (Kd.R_elder' (aR HO337) (Kd.R_base ho0) hb)
 replace BK333 := Aside0.mk (blk_below (g := gb333) (o := .cells #[.int .i64 a0_0, .slice A0_1 l0_1.length c0_1, .slice A0_2 l0_2.length c0_2, .int .i64 a0_3] 25 (0, 0)) (kB BK333) hb)
 replace BK334 := Aside0.mk (blk_below (g := gb334) (o := .cells #[.int .i64 0, .slice none 0 0, .slice none 0 0, .int .i64 0] 25 (0, 0)) (kB BK334) hb)
 replace HB := Aside0.mk (below_step (bB HB) hb)
 (try clear hb);(try clear hb2);(try clear hk);(try clear hi);(try clear ho0)
 obtain ⟨Ao9, co9, eo9⟩ := Kd.R_slice HO340.out
 (first | subst eo9 | (injection eo9 with f1_ f2_ f3_; have f4_ := f1_.symm; have f5_ := f3_.symm; clear f1_ f2_ f3_; subst f4_; subst f5_))
 obtain ⟨Ao10, co10, eo10⟩ := Kd.R_slice HO337.out
 (first | subst eo10 | (injection eo10 with f1_ f2_ f3_; have f4_ := f1_.symm; have f5_ := f3_.symm; clear f1_ f2_ f3_; subst f4_; subst f5_))
 refine hK.out _ _ ⟨(blk_cell BK333.out 0).trans rfl, (blk_cell BK333.out 1).trans rfl, (blk_cell BK333.out 2).trans rfl, (blk_cell BK333.out 3).trans rfl⟩ (fun hHeld => ?_)
 clear hK K
 refine norm_ (a' := ?_) ?_ ?_
 rotate_left
 ·show Act.put _ (some 10) _ = _
  simp only [Act.put, List.setIfInBounds_toArray, List.set_cons_zero, List.set_cons_succ, i64_w, i32_w]
  rfl
 refine pure_ (i := 10) (N := some 13) (v := ?_) (a' := ?_) #[true, true, true, true, true, true, true, true, true, true, true, false] rfl rfl (any_of HT_.out (by kernel_rfl)) (fun _ _ _ h => h) (Or.inl ⟨by rfl, ?_⟩) ?_ ?_
 rotate_left
 ·intro w'
  go_simp
  with_reducible rfl
 rotate_left
 ·simp only [Act.put, List.setIfInBounds_toArray, List.set_cons_zero, List.set_cons_succ, i64_w, i32_w]
  rfl
 refine one_ (i := 11) (N := none) #[true, true, true, true, true, true, true, true, true, true, true, true] rfl rfl (one_of HT_.out (by kernel_rfl)) (by decide) (fun K hK => ?_)
 have hs11 : w8.cell? ⟨gb334, 0, none⟩ = some (.int .i64 0) := (blk_cell BK334.out 0).trans rfl
 have hfs11 := blk_frozen BK334.out 0
 have hns11_0 := NB333_334.out
 have hms11_0 := NB334_333.out
 have hs12 : w8.cell? ⟨gb334, 1, none⟩ = some (.slice none 0 0) := (blk_cell BK334.out 1).trans rfl
 have hfs12 := blk_frozen BK334.out 1
 have hns12_0 := NB333_334.out
 have hms12_0 := NB334_333.out
 have hs13 : w8.cell? ⟨gb334, 2, none⟩ = some (.slice none 0 0) := (blk_cell BK334.out 2).trans rfl
 have hfs13 := blk_frozen BK334.out 2
 have hns13_0 := NB333_334.out
 have hms13_0 := NB334_333.out
 have hs14 : w8.cell? ⟨gb334, 3, none⟩ = some (.int .i64 0) := (blk_cell BK334.out 3).trans rfl
 have hfs14 := blk_frozen BK334.out 3
 have hns14_0 := NB333_334.out
 have hms14_0 := NB334_333.out
 refine skip_ (w1 := ?_) (by rfl) rfl ?_ ?_
 rotate_left
 ·go_simp
  rfl
 refine hK.out _ _ ⟨((cell_far (p := ⟨gb334, _, none⟩) NB333_334.out _).trans (((cell_far (p := ⟨gb334, _, none⟩) NB333_334.out _).trans (((cell_far (p := ⟨gb334, _, none⟩) NB333_334.out _).trans (((cell_far (p := ⟨gb334, _, none⟩) NB333_334.out _).trans (hHeld.1)))))))), ((cell_far (p := ⟨gb334, _, none⟩) NB333_334.out _).trans (((cell_far (p := ⟨gb334, _, none⟩) NB333_334.out _).trans (((cell_far (p := ⟨gb334, _, none⟩) NB333_334.out _).trans (((cell_far (p := ⟨gb334, _, none⟩) NB333_334.out _).trans (hHeld.2.1)))))))), ((cell_far (p := ⟨gb334, _, none⟩) NB333_334.out _).trans (((cell_far (p := ⟨gb334, _, none⟩) NB333_334.out _).trans (((cell_far (p := ⟨gb334, _, none⟩) NB333_334.out _).trans (((cell_far (p := ⟨gb334, _, none⟩) NB333_334.out _).trans (hHeld.2.2.1)))))))), ((cell_far (p := ⟨gb334, _, none⟩) NB333_334.out _).trans (((cell_far (p := ⟨gb334, _, none⟩) NB333_334.out _).trans (((cell_far (p := ⟨gb334, _, none⟩) NB333_334.out _).trans (((cell_far (p := ⟨gb334, _, none⟩) NB333_334.out _).trans (hHeld.2.2.2))))))))⟩ (fun hHeld => ?_)
 clear hK K
 refine done_ (done_of HT_.out (by kernel_rfl)) ?_
 try go_wp2
 refine bodyPost_ret (results_cell_row rfl _ _ gb334 25 #[.int .i64 a0_0, .slice Ao10 t335.length co10, .slice Ao9 t338.length co9, .int .i64 a0_3] (0, 0) _ rfl (by (with_reducible repeat (first | refine blk_drewN ?_ _ | refine blk_drew ?_ | refine blk_alloc ?_ _)); refine blk_put (cs := #[.int .i64 a0_0, .slice Ao10 t335.length co10, .slice Ao9 t338.length co9, .int .i64 0]) ?_ 3 _ rfl; (with_reducible repeat (first | refine blk_drewN ?_ _ | refine blk_drew ?_ | refine blk_alloc ?_ _)); refine blk_put (cs := #[.int .i64 a0_0, .slice Ao10 t335.length co10, .slice none 0 0, .int .i64 0]) ?_ 2 _ rfl; (with_reducible repeat (first | refine blk_drewN ?_ _ | refine blk_drew ?_ | refine blk_alloc ?_ _)); refine blk_put (cs := #[.int .i64 a0_0, .slice none 0 0, .slice none 0 0, .int .i64 0]) ?_ 1 _ rfl; (with_reducible repeat (first | refine blk_drewN ?_ _ | refine blk_drew ?_ | refine blk_alloc ?_ _)); refine blk_put (cs := #[.int .i64 0, .slice none 0 0, .slice none 0 0, .int .i64 0]) ?_ 0 _ rfl; (with_reducible repeat (first | refine blk_drewN ?_ _ | refine blk_drew ?_ | refine blk_alloc ?_ _)); exact BK334.out) Try.underlying25 rfl (by kernel_rfl)) rfl ?_
 exact ⟨_, _, by first | rfl | (simp [errW_none, errW_some] <;> rfl) | (simp [*, errW_none, errW_some] <;> rfl), by (with_reducible repeat (first | apply Kd.R_alloc | apply Kd.R_drewN | apply Kd.R_drew)); exact Kd.R_mono (Kd.R_far (p := ⟨gb334, 3, none⟩) (Kd.R_far (p := ⟨gb334, 2, none⟩) (Kd.R_far (p := ⟨gb334, 1, none⟩) (Kd.R_far (p := ⟨gb334, 0, none⟩) (Kd.R_types HO337.out BK334.out (by decide)) (fun _ hk => hk.2) (.int .i64 a0_0)) (fun _ hk => hk.2) (.slice Ao10 t335.length co10)) (fun _ hk => hk.2) (.slice Ao9 t338.length co9)) (fun _ hk => hk.2) (.int .i64 a0_3)) (fun _ hk => hk.1.2), by (with_reducible repeat (first | apply Kd.R_alloc | apply Kd.R_drewN | apply Kd.R_drew)); exact Kd.R_mono (Kd.R_far (p := ⟨gb334, 3, none⟩) (Kd.R_far (p := ⟨gb334, 2, none⟩) (Kd.R_far (p := ⟨gb334, 1, none⟩) (Kd.R_far (p := ⟨gb334, 0, none⟩) (Kd.R_types HO340.out BK334.out (by decide)) (fun _ hk => hk.2) (.int .i64 a0_0)) (fun _ hk => hk.2) (.slice Ao10 t335.length co10)) (fun _ hk => hk.2) (.slice Ao9 t338.length co9)) (fun _ hk => hk.2) (.int .i64 a0_3)) (fun _ hk => hk.1.2), bB HB⟩

end Go.Proofs.Ytemnidhllbbjnaa.XFnExactRehashTo
