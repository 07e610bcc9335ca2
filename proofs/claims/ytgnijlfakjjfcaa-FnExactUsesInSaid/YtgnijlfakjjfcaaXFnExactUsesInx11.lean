-- Written by xprint.py of this session: out of the translation, by the kit's print with contracts of this session.
import Derived.Test.YtgnijlfakjjfcaaXFnExactUsesInx0
import Derived.Test.YtgnijlfakjjfcaaXFnExactUsesInx10
namespace Go.Proofs.Ytgnijlfakjjfcaa.XFnExactUsesIn
open Go.RowKit Go.Proofs.YtgnijlfakjjfcaaW.PrintWords Go.Proofs.YtgnijlfakjjfcaaW.PrintLast Go.Proofs.YtgnijlfakjjfcaaW.PrintMore
open Go.Proofs.Ytgnijlfakjjfcaa.Min0
attribute [local go_sem] max2_int min2_int max_two min_two max_three min_three max_four min_four   -- for this text's walks alone
set_option linter.unusedVariables false
set_option linter.unusedSimpArgs false

/-! ### laws_markDisk: function 82 -/
def laws_markDisk.f (k : Nat) (l0_0 : List ByteArray) (l0_1 : List ByteArray) (l0_2 : List Bool) (a1 : Int) : Option (Int × List ByteArray × List ByteArray × List Bool) := (laws_markStringS.f k l0_0 a1).bind fun bt308 => ((laws_markStringS.f k l0_1 bt308.1).bind fun bt310 => ((laws_markBoolS.f k l0_2 bt310.1).bind fun bt312 => (some (bt312.1, bt308.2, bt310.2, bt312.2))))
theorem laws_markDisk.mono : ∀ a0 a1 a2 a3 k, LeO (laws_markDisk.f k a0 a1 a2 a3) (laws_markDisk.f (k + 1) a0 a1 a2 a3) := by
 intro a0 a1 a2 a3 k
 unfold laws_markDisk.f
 repeat' first
   | (with_reducible exact laws_markBoolS.mono _ _ _)
   | (with_reducible exact laws_markStringS.mono _ _ _)
   | (with_reducible exact LeO.refl _)
   | (with_reducible exact LeO.none _)
   | (with_reducible refine LeO.ite ?_ ?_)
   | (with_reducible refine LeO.bind ?_ (fun _ => ?_))
   | exact laws_markBoolS.mono _ _ _
   | exact laws_markStringS.mono _ _ _
   | exact LeO.none _
   | refine LeO.ite ?_ ?_
   | refine LeO.bind ?_ (fun _ => ?_)
set_option maxHeartbeats 8000000 in
set_option maxRecDepth 100000 in
theorem laws_markDisk.calls (k : Nat) (P0_0_ : Nat → Prop) (u9000_ : Value) (l0_0 : List ByteArray) (P0_1_ : Nat → Prop) (u9001_ : Value) (l0_1 : List ByteArray) (P0_2_ : Nat → Prop) (u9002_ : Value) (l0_2 : List Bool) (a1 : Int) (r1 : Int) (r2 : List ByteArray) (r3 : List ByteArray) (r4 : List Bool) (w0 w : World) (hB : Below w0.heap.size w0 w) (ho0_0 : Kd.R Kd.string 9 w w0.heap.size P0_0_ u9000_ l0_0) (hp0_0_0_1 : ∀ k_, P0_0_ k_ → ¬ P0_1_ k_) (ho0_1 : Kd.R Kd.string 9 w w0.heap.size P0_1_ u9001_ l0_1) (hp0_1_0_0 : ∀ k_, P0_1_ k_ → ¬ P0_0_ k_) (ho0_2 : Kd.R Kd.bool 4 w w0.heap.size P0_2_ u9002_ l0_2) (h : laws_markDisk.f k l0_0 l0_1 l0_2 a1 = some (r1, r2, r3, r4)) :
  Calls Try.prog 82 #[.agg #[u9000_, u9001_, u9002_], .int .i64 a1] w fun e w' => e = .returned (.int .i64 r1) ∧ Kd.R Kd.string 9 w' w0.heap.size (fun k_ => ((P0_0_ k_ ∨ P0_1_ k_ ∨ P0_2_ k_) ∨ w.heap.size ≤ k_)) u9000_ r2 ∧ Kd.R Kd.string 9 w' w0.heap.size (fun k_ => ((P0_0_ k_ ∨ P0_1_ k_ ∨ P0_2_ k_) ∨ w.heap.size ≤ k_)) u9001_ r3 ∧ Kd.R Kd.bool 4 w' w0.heap.size (fun k_ => ((P0_0_ k_ ∨ P0_1_ k_ ∨ P0_2_ k_) ∨ w.heap.size ≤ k_)) u9002_ r4 ∧ Below w0.heap.size w0 w' ∧ Kept w w' (fun k_ => P0_0_ k_ ∨ P0_1_ k_ ∨ P0_2_ k_) := by
 have hu31 := Try.underlying31
 have HO0_0 := Aside0.mk (show Kd.R Kd.string 9 w w0.heap.size (fun k_ => ((P0_0_ k_ ∨ P0_1_ k_ ∨ P0_2_ k_) ∨ w.heap.size ≤ k_) ∧ some k_ ≠ (u9001_ : Value).ownBlock) u9000_ l0_0 from Kd.R_mono ho0_0 (fun k_ hk => ⟨(.inl (.inl hk)), fun e_ => hp0_0_0_1 k_ hk (ho0_1.1 k_ e_.symm)⟩))
 have HO0_1 := Aside0.mk (show Kd.R Kd.string 9 w w0.heap.size (fun k_ => ((P0_0_ k_ ∨ P0_1_ k_ ∨ P0_2_ k_) ∨ w.heap.size ≤ k_) ∧ some k_ ≠ (u9000_ : Value).ownBlock) u9001_ l0_1 from Kd.R_mono ho0_1 (fun k_ hk => ⟨(.inl (.inr (.inl hk))), fun e_ => hp0_1_0_0 k_ hk (ho0_0.1 k_ e_.symm)⟩))
 have HO0_2 := Aside0.mk (show Kd.R Kd.bool 4 w w0.heap.size (fun k_ => ((P0_0_ k_ ∨ P0_1_ k_ ∨ P0_2_ k_) ∨ w.heap.size ≤ k_)) u9002_ l0_2 from Kd.R_mono ho0_2 (fun k_ hk => (.inl (.inr (.inr hk)))))
 have HK := Aside0.mk (Kept.refl w (fun k_ => P0_0_ k_ ∨ P0_1_ k_ ∨ P0_2_ k_))
 have HW0 := Aside0.mk hB.size
 have HB := Aside0.mk hB
 clear hB
 have H : ((laws_markStringS.f k l0_0 a1).bind fun bt308 => ((laws_markStringS.f k l0_1 bt308.1).bind fun bt310 => ((laws_markBoolS.f k l0_2 bt310.1).bind fun bt312 => (some (bt312.1, bt308.2, bt310.2, bt312.2))))) = some (r1, r2, r3, r4) := h
 clear h
 replace H := Option.bind_eq_some_iff.mp H
 obtain ⟨⟨t308, t309⟩, A30, H⟩ := H
 replace H : ((laws_markStringS.f k l0_1 t308).bind fun bt310 => ((laws_markBoolS.f k l0_2 bt310.1).bind fun bt312 => (some (bt312.1, t309, bt310.2, bt312.2)))) = some (r1, r2, r3, r4) := H
 have A3 := Aside0.mk A30
 clear A30
 replace H := Option.bind_eq_some_iff.mp H
 obtain ⟨⟨t310, t311⟩, A40, H⟩ := H
 replace H : ((laws_markBoolS.f k l0_2 t310).bind fun bt312 => (some (bt312.1, t309, t311, bt312.2))) = some (r1, r2, r3, r4) := H
 have A4 := Aside0.mk A40
 clear A40
 replace H := Option.bind_eq_some_iff.mp H
 obtain ⟨⟨t312, t313⟩, A50, H⟩ := H
 replace H : (some (t312, t309, t311, t313)) = some (r1, r2, r3, r4) := H
 have A5 := Aside0.mk A50
 clear A50
 simp only [Option.some.injEq, Prod.mk.injEq] at H
 obtain ⟨rfl, rfl, rfl, rfl⟩ := H
 obtain ⟨Ao6, co6, eo6⟩ := Kd.R_slice HO0_0.out
 subst eo6
 obtain ⟨Ao7, co7, eo7⟩ := Kd.R_slice HO0_1.out
 subst eo7
 obtain ⟨Ao8, co8, eo8⟩ := Kd.R_slice HO0_2.out
 subst eo8
 go_enter Try.func82, Try.ntmps82
 go_wp2_with (first | ((with_reducible refine gate_dst (N := 2) rfl ?_); refine box_event ?hg (N := 2) ?hd (cs := #[.slice Ao6 l0_0.length co6, .slice Ao7 l0_1.length co7, .slice Ao8 l0_2.length co8]) (t := 31) ?hr ?_; (case hd => rfl); (case hg => rfl); (case hr => first | (go_simp; done) | (go_simp; rfl)); intro gb307 hg w9 hbox hb; replace HO0_0 := Aside0.mk (Kd.R_below (aR HO0_0) hb); replace HO0_1 := Aside0.mk (Kd.R_below (aR HO0_1) hb); replace HO0_2 := Aside0.mk (Kd.R_below (aR HO0_2) hb); have BK307 := Aside0.mk (hbox); have GW307 := Aside0.mk ((by rw [hg]; exact (by first | exact HK.out.1 | exact (show Kept w _ (fun k_ => P0_0_ k_ ∨ P0_1_ k_ ∨ P0_2_ k_) from by repeat (first | (with_reducible first | exact HK.out | apply Kept.alloc | apply Kept.drewN | apply Kept.drew) | exact HK.out)).1) : w.heap.size ≤ gb307)); replace HK := Aside0.mk (Kept.below (S := (fun k_ => P0_0_ k_ ∨ P0_1_ k_ ∨ P0_2_ k_)) (by repeat (first | (with_reducible first | exact HK.out | apply Kept.alloc | apply Kept.drewN | apply Kept.drew) | exact HK.out)) hb); have GE307 := Aside0.mk ((by rw [hg]; exact (below_size (bB HB)) : w0.heap.size ≤ gb307)); replace HB := Aside0.mk (below_step (bB HB) hb); clear hb hbox hg; have hcz10_0 : w9.cell? ⟨gb307, 0, none⟩ = some (.slice Ao6 l0_0.length co6) := (blk_cell BK307.out 0).trans rfl; have hcz10_1 : w9.cell? ⟨gb307, 1, none⟩ = some (.slice Ao7 l0_1.length co7) := (blk_cell BK307.out 1).trans rfl; have hcz10_2 : w9.cell? ⟨gb307, 2, none⟩ = some (.slice Ao8 l0_2.length co8) := (blk_cell BK307.out 2).trans rfl; have hfz10_0 := blk_frozen BK307.out 0; have hfz10_1 := blk_frozen BK307.out 1; have hfz10_2 := blk_frozen BK307.out 2) | ((with_reducible refine gate_callee (f := 62) rfl ?_); refine goesL_ (some 8) rfl rfl Try.func62 (by kernel_rfl) rfl #[.slice Ao6 l0_0.length co6, .int .i64 a1] rfl (by (try simp only [List.map_toArray, List.map_cons, List.map_nil]); first | done | rfl | (simp only [List.length_drop, List.length_take]; rfl)) ?_; (with_reducible refine (laws_markStringS.calls k (fun k_ => some k_ = (.slice Ao6 l0_0.length co6 : Value).ownBlock) (.slice Ao6 l0_0.length co6) l0_0 a1 t308 t309 w0 _ ?side1 ?side2 A3.out).mono ?_); (case side1 => repeat (first | (with_reducible first | exact HB.out | apply below_alloc | apply pw_below_drewN | apply below_drew1 | refine below_set ?_ GE307.out) | exact HB.out)); (case side2 => exact Kd.R_tight rfl HO0_0.out); rintro e w11 ⟨rfl, hy0, hb, hkp⟩; refine ⟨_, rfl, ?_⟩; replace HO0_1 := Aside0.mk (Kd.R_mono (ok' := fun k_ => ((P0_0_ k_ ∨ P0_1_ k_ ∨ P0_2_ k_) ∨ w.heap.size ≤ k_) ∧ some k_ ≠ (.slice Ao6 l0_0.length co6 : Value).ownBlock) (Kd.R_keptB (HO0_1.out) hkp (fun k_ hk_ hs_ => (hk_.2) hs_)) (fun k_ hk_ => ⟨hk_.1.1, hk_.1.2⟩)); replace HO0_2 := Aside0.mk (Kd.R_mono (ok' := fun k_ => ((P0_0_ k_ ∨ P0_1_ k_ ∨ P0_2_ k_) ∨ w.heap.size ≤ k_)) (Kd.R_keptB ((Kd.R_apart' HO0_2.out (Kd.R_typed HO0_0.out) (by decide))) hkp (fun k_ hk_ hs_ => (hk_.2) hs_)) (fun k_ hk_ => hk_.1.1)); replace BK307 := Aside0.mk (blk_kept (kB BK307) hkp (fun hs_ => (fun e_ => (Kd.R_ne HO0_0.out BK307.out (by decide)) e_) hs_)); replace HK := Aside0.mk (Kept.then_ (S := (fun k_ => P0_0_ k_ ∨ P0_1_ k_ ∨ P0_2_ k_)) (by repeat (first | (with_reducible first | exact HK.out | apply Kept.alloc | apply Kept.drewN | apply Kept.drew | refine Kept.setCell ?_ (.inr GW307.out) _) | exact HK.out)) hkp (fun k_ hs_ => (fun e_ => (HO0_0.out.1 k_ e_.symm).1) hs_)); replace HO0_0 := Aside0.mk (Kd.R_reok rfl hy0 (fun k_ e_ => HO0_0.out.1 k_ e_)); replace HB := Aside0.mk (hb); (try clear hb); (try clear hkp); (try clear hy0); have hcz12_0 : w11.cell? ⟨gb307, 0, none⟩ = some (.slice Ao6 l0_0.length co6) := (blk_cell BK307.out 0).trans rfl; have hcz12_1 : w11.cell? ⟨gb307, 1, none⟩ = some (.slice Ao7 l0_1.length co7) := (blk_cell BK307.out 1).trans rfl; have hcz12_2 : w11.cell? ⟨gb307, 2, none⟩ = some (.slice Ao8 l0_2.length co8) := (blk_cell BK307.out 2).trans rfl; have hfz12_0 := blk_frozen BK307.out 0; have hfz12_1 := blk_frozen BK307.out 1; have hfz12_2 := blk_frozen BK307.out 2) | ((with_reducible refine gate_callee (f := 62) rfl ?_); refine goesL_ (some 12) rfl rfl Try.func62 (by kernel_rfl) rfl #[.slice Ao7 l0_1.length co7, .int .i64 t308] rfl (by (try simp only [List.map_toArray, List.map_cons, List.map_nil]); first | done | rfl | (simp only [List.length_drop, List.length_take]; rfl)) ?_; (with_reducible refine (laws_markStringS.calls k (fun k_ => some k_ = (.slice Ao7 l0_1.length co7 : Value).ownBlock) (.slice Ao7 l0_1.length co7) l0_1 t308 t310 t311 w0 _ ?side1 ?side2 A4.out).mono ?_); (case side1 => repeat (first | (with_reducible first | exact HB.out | apply below_alloc | apply pw_below_drewN | apply below_drew1 | refine below_set ?_ GE307.out) | exact HB.out)); (case side2 => exact Kd.R_tight rfl HO0_1.out); rintro e w13 ⟨rfl, hy0, hb, hkp⟩; refine ⟨_, rfl, ?_⟩; replace HO0_0 := Aside0.mk (Kd.R_mono (ok' := fun k_ => ((P0_0_ k_ ∨ P0_1_ k_ ∨ P0_2_ k_) ∨ w.heap.size ≤ k_) ∧ some k_ ≠ (.slice Ao7 l0_1.length co7 : Value).ownBlock) (Kd.R_keptB (HO0_0.out) hkp (fun k_ hk_ hs_ => (hk_.2) hs_)) (fun k_ hk_ => ⟨hk_.1.1, hk_.1.2⟩)); replace HO0_2 := Aside0.mk (Kd.R_mono (ok' := fun k_ => ((P0_0_ k_ ∨ P0_1_ k_ ∨ P0_2_ k_) ∨ w.heap.size ≤ k_)) (Kd.R_keptB ((Kd.R_apart' HO0_2.out (Kd.R_typed HO0_1.out) (by decide))) hkp (fun k_ hk_ hs_ => (hk_.2) hs_)) (fun k_ hk_ => hk_.1.1)); replace BK307 := Aside0.mk (blk_kept (kB BK307) hkp (fun hs_ => (fun e_ => (Kd.R_ne HO0_1.out BK307.out (by decide)) e_) hs_)); replace HK := Aside0.mk (Kept.then_ (S := (fun k_ => P0_0_ k_ ∨ P0_1_ k_ ∨ P0_2_ k_)) (by repeat (first | (with_reducible first | exact HK.out | apply Kept.alloc | apply Kept.drewN | apply Kept.drew | refine Kept.setCell ?_ (.inr GW307.out) _) | exact HK.out)) hkp (fun k_ hs_ => (fun e_ => (HO0_1.out.1 k_ e_.symm).1) hs_)); replace HO0_1 := Aside0.mk (Kd.R_reok rfl hy0 (fun k_ e_ => HO0_1.out.1 k_ e_)); replace HB := Aside0.mk (hb); (try clear hb); (try clear hkp); (try clear hy0); have hcz14_0 : w13.cell? ⟨gb307, 0, none⟩ = some (.slice Ao6 l0_0.length co6) := (blk_cell BK307.out 0).trans rfl; have hcz14_1 : w13.cell? ⟨gb307, 1, none⟩ = some (.slice Ao7 l0_1.length co7) := (blk_cell BK307.out 1).trans rfl; have hcz14_2 : w13.cell? ⟨gb307, 2, none⟩ = some (.slice Ao8 l0_2.length co8) := (blk_cell BK307.out 2).trans rfl; have hfz14_0 := blk_frozen BK307.out 0; have hfz14_1 := blk_frozen BK307.out 1; have hfz14_2 := blk_frozen BK307.out 2) | ((with_reducible refine gate_callee (f := 103) rfl ?_); refine goesL_ (some 16) rfl rfl Try.func103 (by kernel_rfl) rfl #[.slice Ao8 l0_2.length co8, .int .i64 t310] rfl (by (try simp only [List.map_toArray, List.map_cons, List.map_nil]); first | done | rfl | (simp only [List.length_drop, List.length_take]; rfl)) ?_; (with_reducible refine (laws_markBoolS.calls k (fun k_ => some k_ = (.slice Ao8 l0_2.length co8 : Value).ownBlock) (.slice Ao8 l0_2.length co8) l0_2 t310 t312 t313 w0 _ ?side1 ?side2 A5.out).mono ?_); (case side1 => repeat (first | (with_reducible first | exact HB.out | apply below_alloc | apply pw_below_drewN | apply below_drew1 | refine below_set ?_ GE307.out) | exact HB.out)); (case side2 => exact Kd.R_tight rfl HO0_2.out); rintro e w15 ⟨rfl, hy0, hb, hkp⟩; refine ⟨_, rfl, ?_⟩; replace HO0_0 := Aside0.mk (Kd.R_mono (ok' := fun k_ => ((P0_0_ k_ ∨ P0_1_ k_ ∨ P0_2_ k_) ∨ w.heap.size ≤ k_) ∧ some k_ ≠ (.slice Ao7 l0_1.length co7 : Value).ownBlock) (Kd.R_keptB ((Kd.R_apart' HO0_0.out (Kd.R_typed HO0_2.out) (by decide))) hkp (fun k_ hk_ hs_ => (hk_.2) hs_)) (fun k_ hk_ => ⟨hk_.1.1.1, hk_.1.1.2⟩)); replace HO0_1 := Aside0.mk (Kd.R_mono (ok' := fun k_ => ((P0_0_ k_ ∨ P0_1_ k_ ∨ P0_2_ k_) ∨ w.heap.size ≤ k_) ∧ some k_ ≠ (.slice Ao6 l0_0.length co6 : Value).ownBlock) (Kd.R_keptB ((Kd.R_apart' HO0_1.out (Kd.R_typed HO0_2.out) (by decide))) hkp (fun k_ hk_ hs_ => (hk_.2) hs_)) (fun k_ hk_ => ⟨hk_.1.1.1, hk_.1.1.2⟩)); replace BK307 := Aside0.mk (blk_kept (kB BK307) hkp (fun hs_ => (fun e_ => (Kd.R_ne HO0_2.out BK307.out (by decide)) e_) hs_)); replace HK := Aside0.mk (Kept.then_ (S := (fun k_ => P0_0_ k_ ∨ P0_1_ k_ ∨ P0_2_ k_)) (by repeat (first | (with_reducible first | exact HK.out | apply Kept.alloc | apply Kept.drewN | apply Kept.drew | refine Kept.setCell ?_ (.inr GW307.out) _) | exact HK.out)) hkp (fun k_ hs_ => (fun e_ => (HO0_2.out.1 k_ e_.symm)) hs_)); replace HO0_2 := Aside0.mk (Kd.R_reok rfl hy0 (fun k_ e_ => HO0_2.out.1 k_ e_)); replace HB := Aside0.mk (hb); (try clear hb); (try clear hkp); (try clear hy0)))
 go_ret
 exact ⟨by first | rfl | (simp [errW_none, errW_some] <;> rfl) | (simp [*, errW_none, errW_some] <;> rfl), by (with_reducible repeat (first | apply Kd.R_alloc | apply Kd.R_drewN | apply Kd.R_drew)); exact Kd.R_mono HO0_0.out (fun _ hk => hk.1), by (with_reducible repeat (first | apply Kd.R_alloc | apply Kd.R_drewN | apply Kd.R_drew)); exact Kd.R_mono HO0_1.out (fun _ hk => hk.1), by (with_reducible repeat (first | apply Kd.R_alloc | apply Kd.R_drewN | apply Kd.R_drew)); exact HO0_2.out, bB HB, by repeat (first | (with_reducible first | exact HK.out | apply Kept.alloc | apply Kept.drewN | apply Kept.drew | refine Kept.setCell ?_ (.inr GW307.out) _) | exact HK.out)⟩

/-! ### laws_markScrub: function 38 -/
def laws_markScrub.f (k : Nat) (l0_0 : List ByteArray) (l0_1 : List ByteArray) (l0_2 : List Bool) (l0_3 : List Int) (a0_4 : Int) (a0_5 : Int) (a1 : Int) : Option (Int × List ByteArray × List ByteArray × List Bool × List Int) := (laws_markDisk.f k l0_0 l0_1 l0_2 a1).bind fun bt315 => ((laws_markIntS.f k l0_3 bt315.1).bind fun bt319 => (some (bt319.1, bt315.2.1, bt315.2.2.1, bt315.2.2.2, bt319.2)))
theorem laws_markScrub.mono : ∀ a0 a1 a2 a3 a4 a5 a6 k, LeO (laws_markScrub.f k a0 a1 a2 a3 a4 a5 a6) (laws_markScrub.f (k + 1) a0 a1 a2 a3 a4 a5 a6) := by
 intro a0 a1 a2 a3 a4 a5 a6 k
 unfold laws_markScrub.f
 repeat' first
   | (with_reducible exact laws_markDisk.mono _ _ _ _ _)
   | (with_reducible exact laws_markIntS.mono _ _ _)
   | (with_reducible exact LeO.refl _)
   | (with_reducible exact LeO.none _)
   | (with_reducible refine LeO.ite ?_ ?_)
   | (with_reducible refine LeO.bind ?_ (fun _ => ?_))
   | exact laws_markDisk.mono _ _ _ _ _
   | exact laws_markIntS.mono _ _ _
   | exact LeO.none _
   | refine LeO.ite ?_ ?_
   | refine LeO.bind ?_ (fun _ => ?_)
set_option maxHeartbeats 8000000 in
set_option maxRecDepth 100000 in
theorem laws_markScrub.calls (k : Nat) (P0_0_ : Nat → Prop) (u9000_ : Value) (l0_0 : List ByteArray) (P0_1_ : Nat → Prop) (u9001_ : Value) (l0_1 : List ByteArray) (P0_2_ : Nat → Prop) (u9002_ : Value) (l0_2 : List Bool) (P0_3_ : Nat → Prop) (u9003_ : Value) (l0_3 : List Int) (a0_4 : Int) (a0_5 : Int) (a1 : Int) (r1 : Int) (r2 : List ByteArray) (r3 : List ByteArray) (r4 : List Bool) (r5 : List Int) (w0 w : World) (hB : Below w0.heap.size w0 w) (ho0_0 : Kd.R Kd.string 9 w w0.heap.size P0_0_ u9000_ l0_0) (hp0_0_0_1 : ∀ k_, P0_0_ k_ → ¬ P0_1_ k_) (ho0_1 : Kd.R Kd.string 9 w w0.heap.size P0_1_ u9001_ l0_1) (hp0_1_0_0 : ∀ k_, P0_1_ k_ → ¬ P0_0_ k_) (ho0_2 : Kd.R Kd.bool 4 w w0.heap.size P0_2_ u9002_ l0_2) (ho0_3 : Kd.R (Kd.int .i64) 3 w w0.heap.size P0_3_ u9003_ l0_3) (h : laws_markScrub.f k l0_0 l0_1 l0_2 l0_3 a0_4 a0_5 a1 = some (r1, r2, r3, r4, r5)) :
  Calls Try.prog 38 #[.agg #[u9000_, u9001_, u9002_, u9003_, .int .i64 a0_4, .int .i64 a0_5], .int .i64 a1] w fun e w' => e = .returned (.int .i64 r1) ∧ Kd.R Kd.string 9 w' w0.heap.size (fun k_ => ((P0_0_ k_ ∨ P0_1_ k_ ∨ P0_2_ k_ ∨ P0_3_ k_) ∨ w.heap.size ≤ k_)) u9000_ r2 ∧ Kd.R Kd.string 9 w' w0.heap.size (fun k_ => ((P0_0_ k_ ∨ P0_1_ k_ ∨ P0_2_ k_ ∨ P0_3_ k_) ∨ w.heap.size ≤ k_)) u9001_ r3 ∧ Kd.R Kd.bool 4 w' w0.heap.size (fun k_ => ((P0_0_ k_ ∨ P0_1_ k_ ∨ P0_2_ k_ ∨ P0_3_ k_) ∨ w.heap.size ≤ k_)) u9002_ r4 ∧ Kd.R (Kd.int .i64) 3 w' w0.heap.size (fun k_ => ((P0_0_ k_ ∨ P0_1_ k_ ∨ P0_2_ k_ ∨ P0_3_ k_) ∨ w.heap.size ≤ k_)) u9003_ r5 ∧ Below w0.heap.size w0 w' ∧ Kept w w' (fun k_ => P0_0_ k_ ∨ P0_1_ k_ ∨ P0_2_ k_ ∨ P0_3_ k_) := by
 have hu33 := Try.underlying33
 have hu31 := Try.underlying31
 have HO0_0 := Aside0.mk (show Kd.R Kd.string 9 w w0.heap.size (fun k_ => ((P0_0_ k_ ∨ P0_1_ k_ ∨ P0_2_ k_ ∨ P0_3_ k_) ∨ w.heap.size ≤ k_) ∧ some k_ ≠ (u9001_ : Value).ownBlock) u9000_ l0_0 from Kd.R_mono ho0_0 (fun k_ hk => ⟨(.inl (.inl hk)), fun e_ => hp0_0_0_1 k_ hk (ho0_1.1 k_ e_.symm)⟩))
 have HO0_1 := Aside0.mk (show Kd.R Kd.string 9 w w0.heap.size (fun k_ => ((P0_0_ k_ ∨ P0_1_ k_ ∨ P0_2_ k_ ∨ P0_3_ k_) ∨ w.heap.size ≤ k_) ∧ some k_ ≠ (u9000_ : Value).ownBlock) u9001_ l0_1 from Kd.R_mono ho0_1 (fun k_ hk => ⟨(.inl (.inr (.inl hk))), fun e_ => hp0_1_0_0 k_ hk (ho0_0.1 k_ e_.symm)⟩))
 have HO0_2 := Aside0.mk (show Kd.R Kd.bool 4 w w0.heap.size (fun k_ => ((P0_0_ k_ ∨ P0_1_ k_ ∨ P0_2_ k_ ∨ P0_3_ k_) ∨ w.heap.size ≤ k_)) u9002_ l0_2 from Kd.R_mono ho0_2 (fun k_ hk => (.inl (.inr (.inr (.inl hk))))))
 have HO0_3 := Aside0.mk (show Kd.R (Kd.int .i64) 3 w w0.heap.size (fun k_ => ((P0_0_ k_ ∨ P0_1_ k_ ∨ P0_2_ k_ ∨ P0_3_ k_) ∨ w.heap.size ≤ k_)) u9003_ l0_3 from Kd.R_mono ho0_3 (fun k_ hk => (.inl (.inr (.inr (.inr hk))))))
 have HK := Aside0.mk (Kept.refl w (fun k_ => P0_0_ k_ ∨ P0_1_ k_ ∨ P0_2_ k_ ∨ P0_3_ k_))
 have HW0 := Aside0.mk hB.size
 have HB := Aside0.mk hB
 clear hB
 have H : ((laws_markDisk.f k l0_0 l0_1 l0_2 a1).bind fun bt315 => ((laws_markIntS.f k l0_3 bt315.1).bind fun bt319 => (some (bt319.1, bt315.2.1, bt315.2.2.1, bt315.2.2.2, bt319.2)))) = some (r1, r2, r3, r4, r5) := h
 clear h
 replace H := Option.bind_eq_some_iff.mp H
 obtain ⟨⟨t315, t316, t317, t318⟩, A30, H⟩ := H
 replace H : ((laws_markIntS.f k l0_3 t315).bind fun bt319 => (some (bt319.1, t316, t317, t318, bt319.2))) = some (r1, r2, r3, r4, r5) := H
 have A3 := Aside0.mk A30
 clear A30
 replace H := Option.bind_eq_some_iff.mp H
 obtain ⟨⟨t319, t320⟩, A40, H⟩ := H
 replace H : (some (t319, t316, t317, t318, t320)) = some (r1, r2, r3, r4, r5) := H
 have A4 := Aside0.mk A40
 clear A40
 simp only [Option.some.injEq, Prod.mk.injEq] at H
 obtain ⟨rfl, rfl, rfl, rfl, rfl⟩ := H
 obtain ⟨Ao5, co5, eo5⟩ := Kd.R_slice HO0_0.out
 subst eo5
 obtain ⟨Ao6, co6, eo6⟩ := Kd.R_slice HO0_1.out
 subst eo6
 obtain ⟨Ao7, co7, eo7⟩ := Kd.R_slice HO0_2.out
 subst eo7
 obtain ⟨Ao8, co8, eo8⟩ := Kd.R_slice HO0_3.out
 subst eo8
 go_enter Try.func38, Try.ntmps38
 go_wp2_with (first | ((with_reducible refine gate_dst (N := 2) rfl ?_); refine box_event ?hg (N := 2) ?hd (cs := #[.slice Ao5 l0_0.length co5, .slice Ao6 l0_1.length co6, .slice Ao7 l0_2.length co7, .slice Ao8 l0_3.length co8, .int .i64 a0_4, .int .i64 a0_5]) (t := 33) ?hr ?_; (case hd => rfl); (case hg => rfl); (case hr => first | (go_simp; done) | (go_simp; rfl)); intro gb314 hg w9 hbox hb; replace HO0_0 := Aside0.mk (Kd.R_below (aR HO0_0) hb); replace HO0_1 := Aside0.mk (Kd.R_below (aR HO0_1) hb); replace HO0_2 := Aside0.mk (Kd.R_below (aR HO0_2) hb); replace HO0_3 := Aside0.mk (Kd.R_below (aR HO0_3) hb); have BK314 := Aside0.mk (hbox); have GW314 := Aside0.mk ((by rw [hg]; exact (by first | exact HK.out.1 | exact (show Kept w _ (fun k_ => P0_0_ k_ ∨ P0_1_ k_ ∨ P0_2_ k_ ∨ P0_3_ k_) from by repeat (first | (with_reducible first | exact HK.out | apply Kept.alloc | apply Kept.drewN | apply Kept.drew) | exact HK.out)).1) : w.heap.size ≤ gb314)); replace HK := Aside0.mk (Kept.below (S := (fun k_ => P0_0_ k_ ∨ P0_1_ k_ ∨ P0_2_ k_ ∨ P0_3_ k_)) (by repeat (first | (with_reducible first | exact HK.out | apply Kept.alloc | apply Kept.drewN | apply Kept.drew) | exact HK.out)) hb); have GE314 := Aside0.mk ((by rw [hg]; exact (below_size (bB HB)) : w0.heap.size ≤ gb314)); replace HB := Aside0.mk (below_step (bB HB) hb); clear hb hbox hg; have hcz10_0 : w9.cell? ⟨gb314, 0, none⟩ = some (.slice Ao5 l0_0.length co5) := (blk_cell BK314.out 0).trans rfl; have hcz10_1 : w9.cell? ⟨gb314, 1, none⟩ = some (.slice Ao6 l0_1.length co6) := (blk_cell BK314.out 1).trans rfl; have hcz10_2 : w9.cell? ⟨gb314, 2, none⟩ = some (.slice Ao7 l0_2.length co7) := (blk_cell BK314.out 2).trans rfl; have hcz10_3 : w9.cell? ⟨gb314, 3, none⟩ = some (.slice Ao8 l0_3.length co8) := (blk_cell BK314.out 3).trans rfl; have hcz10_4 : w9.cell? ⟨gb314, 4, none⟩ = some (.int .i64 a0_4) := (blk_cell BK314.out 4).trans rfl; have hcz10_5 : w9.cell? ⟨gb314, 5, none⟩ = some (.int .i64 a0_5) := (blk_cell BK314.out 5).trans rfl; have hfz10_0 := blk_frozen BK314.out 0; have hfz10_1 := blk_frozen BK314.out 1; have hfz10_2 := blk_frozen BK314.out 2; have hfz10_3 := blk_frozen BK314.out 3; have hfz10_4 := blk_frozen BK314.out 4; have hfz10_5 := blk_frozen BK314.out 5) | ((with_reducible refine gate_callee (f := 82) rfl ?_); refine goesL_ (some 8) rfl rfl Try.func82 (by kernel_rfl) rfl #[.agg #[.slice Ao5 l0_0.length co5, .slice Ao6 l0_1.length co6, .slice Ao7 l0_2.length co7], .int .i64 a1] rfl (by (try simp only [List.map_toArray, List.map_cons, List.map_nil]); first | done | rfl | (simp only [List.length_drop, List.length_take]; rfl)) ?_; (with_reducible refine (laws_markDisk.calls k (fun k_ => some k_ = (.slice Ao5 l0_0.length co5 : Value).ownBlock) (.slice Ao5 l0_0.length co5) l0_0 (fun k_ => some k_ = (.slice Ao6 l0_1.length co6 : Value).ownBlock) (.slice Ao6 l0_1.length co6) l0_1 (fun k_ => some k_ = (.slice Ao7 l0_2.length co7 : Value).ownBlock) (.slice Ao7 l0_2.length co7) l0_2 a1 t315 t316 t317 t318 w0 _ ?side1 ?side2 ?side3 ?side4 ?side5 ?side6 A3.out).mono ?_); (case side1 => repeat (first | (with_reducible first | exact HB.out | apply below_alloc | apply pw_below_drewN | apply below_drew1 | refine below_set ?_ GE314.out) | exact HB.out)); (case side2 => exact Kd.R_tight rfl HO0_0.out); (case side3 => exact fun k_ e_ => (HO0_0.out.1 k_ e_.symm).2); (case side4 => exact Kd.R_tight rfl HO0_1.out); (case side5 => exact fun k_ e_ => (HO0_1.out.1 k_ e_.symm).2); (case side6 => exact Kd.R_tight rfl HO0_2.out); rintro e w11 ⟨rfl, hy0, hy1, hy2, hb, hkp⟩; refine ⟨_, rfl, ?_⟩; replace HO0_3 := Aside0.mk (Kd.R_mono (ok' := fun k_ => ((P0_0_ k_ ∨ P0_1_ k_ ∨ P0_2_ k_ ∨ P0_3_ k_) ∨ w.heap.size ≤ k_)) (Kd.R_keptB ((Kd.R_apart' (Kd.R_apart' (Kd.R_apart' HO0_3.out (Kd.R_typed HO0_0.out) (by decide)) (Kd.R_typed HO0_1.out) (by decide)) (Kd.R_typed HO0_2.out) (by decide))) hkp (fun k_ hk_ hs_ => Or.elim hs_ (fun e_ => (hk_.1.1.2) e_) (fun e_ => Or.elim e_ (fun e_ => (hk_.1.2) e_) (fun e_ => (hk_.2) e_)))) (fun k_ hk_ => hk_.1.1.1.1)); replace BK314 := Aside0.mk (blk_kept (kB BK314) hkp (fun hs_ => Or.elim hs_ (fun e_ => (fun e_ => (Kd.R_ne HO0_0.out BK314.out (by decide)) e_) e_) (fun e_ => Or.elim e_ (fun e_ => (fun e_ => (Kd.R_ne HO0_1.out BK314.out (by decide)) e_) e_) (fun e_ => (fun e_ => (Kd.R_ne HO0_2.out BK314.out (by decide)) e_) e_)))); replace HK := Aside0.mk (Kept.then_ (S := (fun k_ => P0_0_ k_ ∨ P0_1_ k_ ∨ P0_2_ k_ ∨ P0_3_ k_)) (by repeat (first | (with_reducible first | exact HK.out | apply Kept.alloc | apply Kept.drewN | apply Kept.drew | refine Kept.setCell ?_ (.inr GW314.out) _) | exact HK.out)) hkp (fun k_ hs_ => Or.elim hs_ (fun e_ => (fun e_ => (HO0_0.out.1 k_ e_.symm).1) e_) (fun e_ => Or.elim e_ (fun e_ => (fun e_ => (HO0_1.out.1 k_ e_.symm).1) e_) (fun e_ => (fun e_ => (HO0_2.out.1 k_ e_.symm)) e_)))); replace HO0_0 := Aside0.mk (Kd.R_reok rfl hy0 (fun k_ e_ => HO0_0.out.1 k_ e_)); replace HO0_1 := Aside0.mk (Kd.R_reok rfl hy1 (fun k_ e_ => HO0_1.out.1 k_ e_)); replace HO0_2 := Aside0.mk (Kd.R_reok rfl hy2 (fun k_ e_ => HO0_2.out.1 k_ e_)); replace HB := Aside0.mk (hb); (try clear hb); (try clear hkp); (try clear hy0); (try clear hy1); (try clear hy2); have hcz12_0 : w11.cell? ⟨gb314, 0, none⟩ = some (.slice Ao5 l0_0.length co5) := (blk_cell BK314.out 0).trans rfl; have hcz12_1 : w11.cell? ⟨gb314, 1, none⟩ = some (.slice Ao6 l0_1.length co6) := (blk_cell BK314.out 1).trans rfl; have hcz12_2 : w11.cell? ⟨gb314, 2, none⟩ = some (.slice Ao7 l0_2.length co7) := (blk_cell BK314.out 2).trans rfl; have hcz12_3 : w11.cell? ⟨gb314, 3, none⟩ = some (.slice Ao8 l0_3.length co8) := (blk_cell BK314.out 3).trans rfl; have hcz12_4 : w11.cell? ⟨gb314, 4, none⟩ = some (.int .i64 a0_4) := (blk_cell BK314.out 4).trans rfl; have hcz12_5 : w11.cell? ⟨gb314, 5, none⟩ = some (.int .i64 a0_5) := (blk_cell BK314.out 5).trans rfl; have hfz12_0 := blk_frozen BK314.out 0; have hfz12_1 := blk_frozen BK314.out 1; have hfz12_2 := blk_frozen BK314.out 2; have hfz12_3 := blk_frozen BK314.out 3; have hfz12_4 := blk_frozen BK314.out 4; have hfz12_5 := blk_frozen BK314.out 5) | ((with_reducible refine gate_callee (f := 34) rfl ?_); refine goesL_ (some 12) rfl rfl Try.func34 (by kernel_rfl) rfl #[.slice Ao8 l0_3.length co8, .int .i64 t315] rfl (by (try simp only [List.map_toArray, List.map_cons, List.map_nil]); first | done | rfl | (simp only [List.length_drop, List.length_take]; rfl)) ?_; (with_reducible refine (laws_markIntS.calls k (fun k_ => some k_ = (.slice Ao8 l0_3.length co8 : Value).ownBlock) (.slice Ao8 l0_3.length co8) l0_3 t315 t319 t320 w0 _ ?side1 ?side2 A4.out).mono ?_); (case side1 => repeat (first | (with_reducible first | exact HB.out | apply below_alloc | apply pw_below_drewN | apply below_drew1 | refine below_set ?_ GE314.out) | exact HB.out)); (case side2 => exact Kd.R_tight rfl HO0_3.out); rintro e w13 ⟨rfl, hy0, hb, hkp⟩; refine ⟨_, rfl, ?_⟩; replace HO0_0 := Aside0.mk (Kd.R_mono (ok' := fun k_ => ((P0_0_ k_ ∨ P0_1_ k_ ∨ P0_2_ k_ ∨ P0_3_ k_) ∨ w.heap.size ≤ k_) ∧ some k_ ≠ (.slice Ao6 l0_1.length co6 : Value).ownBlock) (Kd.R_keptB ((Kd.R_apart' HO0_0.out (Kd.R_typed HO0_3.out) (by decide))) hkp (fun k_ hk_ hs_ => (hk_.2) hs_)) (fun k_ hk_ => ⟨hk_.1.1.1, hk_.1.1.2⟩)); replace HO0_1 := Aside0.mk (Kd.R_mono (ok' := fun k_ => ((P0_0_ k_ ∨ P0_1_ k_ ∨ P0_2_ k_ ∨ P0_3_ k_) ∨ w.heap.size ≤ k_) ∧ some k_ ≠ (.slice Ao5 l0_0.length co5 : Value).ownBlock) (Kd.R_keptB ((Kd.R_apart' HO0_1.out (Kd.R_typed HO0_3.out) (by decide))) hkp (fun k_ hk_ hs_ => (hk_.2) hs_)) (fun k_ hk_ => ⟨hk_.1.1.1, hk_.1.1.2⟩)); replace HO0_2 := Aside0.mk (Kd.R_mono (ok' := fun k_ => ((P0_0_ k_ ∨ P0_1_ k_ ∨ P0_2_ k_ ∨ P0_3_ k_) ∨ w.heap.size ≤ k_)) (Kd.R_keptB ((Kd.R_apart' HO0_2.out (Kd.R_typed HO0_3.out) (by decide))) hkp (fun k_ hk_ hs_ => (hk_.2) hs_)) (fun k_ hk_ => hk_.1.1)); replace BK314 := Aside0.mk (blk_kept (kB BK314) hkp (fun hs_ => (fun e_ => (Kd.R_ne HO0_3.out BK314.out (by decide)) e_) hs_)); replace HK := Aside0.mk (Kept.then_ (S := (fun k_ => P0_0_ k_ ∨ P0_1_ k_ ∨ P0_2_ k_ ∨ P0_3_ k_)) (by repeat (first | (with_reducible first | exact HK.out | apply Kept.alloc | apply Kept.drewN | apply Kept.drew | refine Kept.setCell ?_ (.inr GW314.out) _) | exact HK.out)) hkp (fun k_ hs_ => (fun e_ => (HO0_3.out.1 k_ e_.symm)) hs_)); replace HO0_3 := Aside0.mk (Kd.R_reok rfl hy0 (fun k_ e_ => HO0_3.out.1 k_ e_)); replace HB := Aside0.mk (hb); (try clear hb); (try clear hkp); (try clear hy0)))
 go_ret
 exact ⟨by first | rfl | (simp [errW_none, errW_some] <;> rfl) | (simp [*, errW_none, errW_some] <;> rfl), by (with_reducible repeat (first | apply Kd.R_alloc | apply Kd.R_drewN | apply Kd.R_drew)); exact Kd.R_mono HO0_0.out (fun _ hk => hk.1), by (with_reducible repeat (first | apply Kd.R_alloc | apply Kd.R_drewN | apply Kd.R_drew)); exact Kd.R_mono HO0_1.out (fun _ hk => hk.1), by (with_reducible repeat (first | apply Kd.R_alloc | apply Kd.R_drewN | apply Kd.R_drew)); exact HO0_2.out, by (with_reducible repeat (first | apply Kd.R_alloc | apply Kd.R_drewN | apply Kd.R_drew)); exact HO0_3.out, bB HB, by repeat (first | (with_reducible first | exact HK.out | apply Kept.alloc | apply Kept.drewN | apply Kept.drew | refine Kept.setCell ?_ (.inr GW314.out) _) | exact HK.out)⟩

/-! ### laws_markIntSS: function 77 -/
def laws_markIntSS.l0 : Nat → List (List Int) → Int → Nat → Option (Int × List (List Int))
 | 0, _, _, _ => none
 | k + 1, l, a, i => if i < l.length then ((laws_markIntS.f k (l.getD i []) a).bind fun p => laws_markIntSS.l0 k (l.set i p.2) p.1 (i + 1)) else some (a, l)
def laws_markIntSS.f (k : Nat) (l0 : List (List Int)) (a1 : Int) : Option (Int × List (List Int)) := laws_markIntSS.l0 k l0 a1 0
theorem laws_markIntSS.mono_l : ∀ k y0 y1 y2, LeO (laws_markIntSS.l0 k y0 y1 y2) (laws_markIntSS.l0 (k + 1) y0 y1 y2)
 | 0 => fun _ _ _ r h => by simp [laws_markIntSS.l0] at h
 | k + 1 => by
  intro y0 y1 y2
  unfold laws_markIntSS.l0
  exact LeO.ite (LeO.bind (laws_markIntS.mono _ _ _) (fun _ => laws_markIntSS.mono_l k _ _ _)) (LeO.refl _)
theorem laws_markIntSS.mono : ∀ a0 a1 k, LeO (laws_markIntSS.f k a0 a1) (laws_markIntSS.f (k + 1) a0 a1) := fun _ _ k => laws_markIntSS.mono_l k _ _ _
set_option maxHeartbeats 4000000 in
set_option maxRecDepth 100000 in
theorem laws_markIntSS.calls (k : Nat) (P0_ : Nat → Prop) (u9000_ : Value) (l0 : List (List Int)) (a1 : Int) (r1 : Int) (r2 : List (List Int)) (w0 w : World) (hB : Below w0.heap.size w0 w) (ho0 : Kd.S (Kd.slice 3 (Kd.int .i64)) 26 w w0.heap.size P0_ u9000_ l0) (h : laws_markIntSS.f k l0 a1 = some (r1, r2)) :
  Calls Try.prog 77 #[u9000_, .int .i64 a1] w fun e w' => e = .returned (.int .i64 r1) ∧ Kd.S (Kd.slice 3 (Kd.int .i64)) 26 w' w0.heap.size P0_ u9000_ r2 ∧ Below w0.heap.size w0 w' ∧ Kept w w' (fun k_ => P0_ k_) := by
 obtain ⟨A, c, rfl⟩ := Kd.S_slice ho0
 have HS := Aside0.mk ho0
 have HB := Aside0.mk hB
 have H := Aside0.mk (show laws_markIntSS.l0 k l0 a1 0 = some (r1, r2) from h)
 clear ho0 hB h
 go_enter Try.func77, Try.ntmps77
 go_wp2
 go_loopg [1, 5] k (fun kq v1 v5 w' => ∃ (i : Nat) (a : Int) (l : List (List Int)), v1 = .int .i64 a ∧ v5 = .int .i64 i ∧ Aside0 (laws_markIntSS.l0 kq l a i = some (r1, r2)) ∧ Aside0 (kq ≤ k) ∧ Aside0 (l.length = l0.length) ∧ Aside0 (Kd.S (Kd.slice 3 (Kd.int .i64)) 26 w' w0.heap.size P0_ (.slice A l0.length c) l) ∧ Aside0 (Below w0.heap.size w0 w') ∧ Aside0 (Kept w w' (fun k_ => P0_ k_)))
 case atStart => exact ⟨0, a1, l0, rfl, rfl, H, ⟨Nat.le_refl _⟩, ⟨rfl⟩, HS, HB, ⟨Kept.refl _ _⟩⟩
 case round =>
  clear H HS HB
  obtain ⟨i, a, l, rfl, rfl, HA, HK1, HL, HS, HB, HKp⟩ := hrel
  cases gk with
  | zero => exact absurd HA.out (by simp [laws_markIntSS.l0])
  | succ k1 =>
   have H := HA.out
   clear HA
   simp only [laws_markIntSS.l0] at H
   by_cases hi : i < l0.length
   ·have hq : (i : Int) < (l0.length : Int) := by omega
    have hp : 0 ≤ (i : Int) := by omega
    rw [if_pos (by rw [HL.out]; exact hi)] at H
    obtain ⟨⟨b, row'⟩, hm, H⟩ := Option.bind_eq_some_iff.mp H
    have HM := Aside0.mk hm
    have HH := Aside0.mk H
    clear hm H
    have hs := HS.out
    obtain ⟨g, cap, hv, _, _, _⟩ := Kd.S_form hs (by rw [HL.out]; omega)
    injection hv with e1 e2 e3
    subst e1
    have hmax : l0.length ≤ maxLen := by
     obtain ⟨inner, ho⟩ := Kd.R_own (Kd.S_R hs)
     rcases ho.2 with ⟨e0, _⟩ | ⟨_, _, _, _, _, _, hn, hm, _⟩
     ·cases e0
     ·exact Nat.le_trans (by rw [← HL.out]; exact hn) hm
    unfold maxLen at hmax
    obtain ⟨oki, cs, hcl, hMM, hcc, hoki, hH⟩ := Kd.S_lend hs [] (i : Int) hp hq
    obtain ⟨ve, rfl, ge⟩ := hMM
    obtain ⟨Ar, cr, er⟩ := Kd.R_slice ge
    subst er
    have hx := hcc 0 _ rfl
    have hx' : wr.cell? ⟨g, i, none⟩ = some (.slice Ar (l.getD (i : Int).toNat []).length cr) := by
     simpa only [show (Kd.slice 3 (Kd.int .i64)).sz = 1 from rfl, Nat.mul_one, Nat.add_zero, Int.toNat_natCast] using hx
    have hge := ge.1
    have HHH := Aside0.mk hH
    have HGE := Aside0.mk ge
    have HG1 := Aside0.mk hge
    have HOK := Aside0.mk hoki
    clear hs hcl hcc hoki hH ge hge hx e2 e3
    go_wp2_with (first | (go_at_call 34; (refine (laws_markIntS.calls k1 (fun k_ => some k_ = (.slice Ar (l.getD (i : Int).toNat []).length cr : Value).ownBlock) (.slice Ar (l.getD (i : Int).toNat []).length cr) (l.getD (i : Int).toNat []) a b row' w0 _ HB.out (Kd.R_tight rfl HGE.out) HM.out).mono ?_); rintro e w1 ⟨rfl, hy, hb, hk⟩))
    go_roundg k1
    case measure => have := HK1.out; omega
    case rel =>
     refine ⟨i + 1, b, l.set i row', rfl, by go_num, HH, ⟨by have := HK1.out; omega⟩, ⟨by rw [List.length_set]; exact HL.out⟩, ⟨?_⟩, ⟨hb⟩, ⟨HKp.out.then_ hk (fun k_ hk_ => .inl (HOK.out k_ (HG1.out k_ hk_.symm)).1)⟩⟩
     have hH1 := Kd.H_kept HHH.out hk (fun k_ _ hn hs_ => hn (HG1.out k_ hs_.symm))
     exact Kd.H_back hH1 (Kd.M_row (Kd.R_reok rfl hy HG1.out)) (fun _ hk_ => hk_)
   ·have hq : ¬ (i : Int) < (l0.length : Int) := by omega
    rw [if_neg (by rw [HL.out]; exact hi)] at H
    simp only [Option.some.injEq, Prod.mk.injEq] at H
    obtain ⟨rfl, rfl⟩ := H
    go_wp2
    go_ret
    exact ⟨rfl, HS.out, HB.out, HKp.out⟩

/-! ### laws_markStore: function 33 -/
def laws_markStore_col.f (k : Nat) (l0 l1 : List ByteArray) (l2 : List Bool) (l3 : List Int) (a4 a5 : Int) (l6 : List (List Int)) (l7 : List Int) (a1 : Int) : Option (Int × List ByteArray × List ByteArray × List Bool × List Int × List (List Int) × List Int) :=
 (laws_markScrub.f k l0 l1 l2 l3 a4 a5 a1).bind fun p => (laws_markIntSS.f k l6 p.1).bind fun q => (laws_markIntS.f k l7 q.1).bind fun s => some (s.1, p.2.1, p.2.2.1, p.2.2.2.1, p.2.2.2.2, q.2, s.2)
theorem laws_markStore_col.mono : ∀ a0 a1 a2 a3 a4 a5 a6 a7 a8 k, LeO (laws_markStore_col.f k a0 a1 a2 a3 a4 a5 a6 a7 a8) (laws_markStore_col.f (k + 1) a0 a1 a2 a3 a4 a5 a6 a7 a8) := by
 intro a0 a1 a2 a3 a4 a5 a6 a7 a8 k
 unfold laws_markStore_col.f
 exact LeO.bind (laws_markScrub.mono _ _ _ _ _ _ _ _) (fun _ => LeO.bind (laws_markIntSS.mono _ _ _) (fun _ => LeO.bind (laws_markIntS.mono _ _ _) (fun _ => LeO.refl _)))
set_option maxHeartbeats 8000000 in
set_option maxRecDepth 100000 in
theorem laws_markStore_col.calls (k : Nat) (col : Nat → Nat) (u0 u1 u2 u3 u6 u7 : Value) (l0 l1 : List ByteArray) (l2 : List Bool) (l3 : List Int) (a4 a5 : Int) (l6 : List (List Int)) (l7 : List Int) (a1 r : Int) (r0 r1 : List ByteArray) (r2 : List Bool) (r3 : List Int) (r6 : List (List Int)) (r7 : List Int) (w0 w : World) (hB : Below w0.heap.size w0 w)
  (ho0 : Kd.R Kd.string 9 w w0.heap.size (fun k_ => col k_ = 0) u0 l0)
  (ho1 : Kd.R Kd.string 9 w w0.heap.size (fun k_ => col k_ = 1) u1 l1)
  (ho2 : Kd.R Kd.bool 4 w w0.heap.size (fun k_ => col k_ = 2) u2 l2)
  (ho3 : Kd.R (Kd.int .i64) 3 w w0.heap.size (fun k_ => col k_ = 3) u3 l3)
  (ho6 : Kd.S (Kd.slice 3 (Kd.int .i64)) 26 w w0.heap.size (fun k_ => col k_ = 6) u6 l6)
  (ho7 : Kd.R (Kd.int .i64) 3 w w0.heap.size (fun k_ => col k_ = 7) u7 l7)
  (h : laws_markStore_col.f k l0 l1 l2 l3 a4 a5 l6 l7 a1 = some (r, r0, r1, r2, r3, r6, r7)) :
  Calls Try.prog 33 #[.agg #[u0, u1, u2, u3, .int .i64 a4, .int .i64 a5, u6, u7], .int .i64 a1] w fun e w' => e = .returned (.int .i64 r) ∧ Kd.R Kd.string 9 w' w0.heap.size (fun k_ => col k_ = 0) u0 r0 ∧ Kd.R Kd.string 9 w' w0.heap.size (fun k_ => col k_ = 1) u1 r1 ∧ Kd.R Kd.bool 4 w' w0.heap.size (fun k_ => col k_ = 2) u2 r2 ∧ Kd.R (Kd.int .i64) 3 w' w0.heap.size (fun k_ => col k_ = 3) u3 r3 ∧ Kd.S (Kd.slice 3 (Kd.int .i64)) 26 w' w0.heap.size (fun k_ => col k_ = 6) u6 r6 ∧ Kd.R (Kd.int .i64) 3 w' w0.heap.size (fun k_ => col k_ = 7) u7 r7 ∧ Below w0.heap.size w0 w' ∧ Kept w w' (fun k_ => col k_ < 8) := by
 have hu55 := Try.underlying55
 obtain ⟨⟨t, t0, t1, t2, t3⟩, hm1, h⟩ := Option.bind_eq_some_iff.mp (show ((laws_markScrub.f k l0 l1 l2 l3 a4 a5 a1).bind fun p => (laws_markIntSS.f k l6 p.1).bind fun q => (laws_markIntS.f k l7 q.1).bind fun s => some (s.1, p.2.1, p.2.2.1, p.2.2.2.1, p.2.2.2.2, q.2, s.2)) = some (r, r0, r1, r2, r3, r6, r7) from h)
 obtain ⟨⟨s, t6⟩, hm2, h⟩ := Option.bind_eq_some_iff.mp h
 obtain ⟨⟨v, t7⟩, hm3, h⟩ := Option.bind_eq_some_iff.mp h
 simp only [Option.some.injEq, Prod.mk.injEq] at h
 obtain ⟨rfl, rfl, rfl, rfl, rfl, rfl, rfl⟩ := h
 have M1 := Aside0.mk hm1
 have M2 := Aside0.mk hm2
 have M3 := Aside0.mk hm3
 clear hm1 hm2 hm3
 obtain ⟨A0, c0, rfl⟩ := Kd.R_slice ho0
 obtain ⟨A1, c1, rfl⟩ := Kd.R_slice ho1
 obtain ⟨A2, c2, rfl⟩ := Kd.R_slice ho2
 obtain ⟨A3, c3, rfl⟩ := Kd.R_slice ho3
 obtain ⟨A6, c6, rfl⟩ := Kd.S_slice ho6
 obtain ⟨A7, c7, rfl⟩ := Kd.R_slice ho7
 have O0 := Aside0.mk ho0
 have O1 := Aside0.mk ho1
 have O2 := Aside0.mk ho2
 have O3 := Aside0.mk ho3
 have O6 := Aside0.mk ho6
 have O7 := Aside0.mk ho7
 have HK := Aside0.mk (Kept.refl w (fun k_ => col k_ < 8))
 have HB := Aside0.mk hB
 clear hB ho0 ho1 ho2 ho3 ho6 ho7
 go_enter Try.func33, Try.ntmps33
 go_wp2_with (first | ((with_reducible refine gate_dst (N := 2) rfl ?_); refine box_event ?hg (N := 2) ?hd (cs := #[.slice A0 l0.length c0, .slice A1 l1.length c1, .slice A2 l2.length c2, .slice A3 l3.length c3, .int .i64 a4, .int .i64 a5, .slice A6 l6.length c6, .slice A7 l7.length c7]) (t := 55) ?hr ?_; (case hd => rfl); (case hg => rfl); (case hr => first | (go_simp; done) | (go_simp; rfl)); intro gb hg w2 hbox hb; have N0 := Aside0.mk (Kd.R_below O0.out hb); have N1 := Aside0.mk (Kd.R_below O1.out hb); have N2 := Aside0.mk (Kd.R_below O2.out hb); have N3 := Aside0.mk (Kd.R_below O3.out hb); have N6 := Aside0.mk (Kd.S_below O6.out hb); have N7 := Aside0.mk (Kd.R_below O7.out hb); have BK := Aside0.mk hbox; have GE := Aside0.mk (show w.heap.size ≤ gb from by rw [hg]; exact Nat.le_refl _); have HK1 := Aside0.mk (Kept.below HK.out hb); have HB1 := Aside0.mk (below_step HB.out hb); clear HK HB O0 O1 O2 O3 O6 O7; have HK := HK1; have HB := HB1; have O0 := N0; have O1 := N1; have O2 := N2; have O3 := N3; have O6 := N6; have O7 := N7; clear HK1 HB1 N0 N1 N2 N3 N6 N7; clear hb hbox hg; have hcz0 : w2.cell? ⟨gb, 0, none⟩ = some (.slice A0 l0.length c0) := (blk_cell BK.out 0).trans rfl; have hcz1 : w2.cell? ⟨gb, 1, none⟩ = some (.slice A1 l1.length c1) := (blk_cell BK.out 1).trans rfl; have hcz2 : w2.cell? ⟨gb, 2, none⟩ = some (.slice A2 l2.length c2) := (blk_cell BK.out 2).trans rfl; have hcz3 : w2.cell? ⟨gb, 3, none⟩ = some (.slice A3 l3.length c3) := (blk_cell BK.out 3).trans rfl; have hcz4 : w2.cell? ⟨gb, 4, none⟩ = some (.int .i64 a4) := (blk_cell BK.out 4).trans rfl; have hcz5 : w2.cell? ⟨gb, 5, none⟩ = some (.int .i64 a5) := (blk_cell BK.out 5).trans rfl; have hcz6 : w2.cell? ⟨gb, 6, none⟩ = some (.slice A6 l6.length c6) := (blk_cell BK.out 6).trans rfl; have hcz7 : w2.cell? ⟨gb, 7, none⟩ = some (.slice A7 l7.length c7) := (blk_cell BK.out 7).trans rfl) | (go_at_call 38; (refine (laws_markScrub.calls k (fun k_ => some k_ = (.slice A0 l0.length c0 : Value).ownBlock) (.slice A0 l0.length c0) l0 (fun k_ => some k_ = (.slice A1 l1.length c1 : Value).ownBlock) (.slice A1 l1.length c1) l1 (fun k_ => some k_ = (.slice A2 l2.length c2 : Value).ownBlock) (.slice A2 l2.length c2) l2 (fun k_ => some k_ = (.slice A3 l3.length c3 : Value).ownBlock) (.slice A3 l3.length c3) l3 a4 a5 a1 t t0 t1 t2 t3 w0 _ HB.out (Kd.R_tight rfl O0.out) (fun k_ e0 e1 => by have h0 := O0.out.1 k_ e0.symm; have h1 := O1.out.1 k_ e1.symm; omega) (Kd.R_tight rfl O1.out) (fun k_ e0 e1 => by have h0 := O1.out.1 k_ e0.symm; have h1 := O0.out.1 k_ e1.symm; omega) (Kd.R_tight rfl O2.out) (Kd.R_tight rfl O3.out) M1.out).mono ?_); rintro e w11 ⟨rfl, y0, y1, y2, y3, hb, hkp⟩; have N0 := Aside0.mk (Kd.R_reok rfl y0 O0.out.1); have N1 := Aside0.mk (Kd.R_reok rfl y1 O1.out.1); have N2 := Aside0.mk (Kd.R_reok rfl y2 O2.out.1); have N3 := Aside0.mk (Kd.R_reok rfl y3 O3.out.1); have N6 := Aside0.mk (Kd.S_step O6.out (fun k_ hq_ hlt_ => hkp.2 k_ hlt_ (fun hs_ => by rcases hs_ with hs_ | hs_ | hs_ | hs_ <;> first | (have h_ := O0.out.1 k_ hs_.symm; omega) | (have h_ := O1.out.1 k_ hs_.symm; omega) | (have h_ := O2.out.1 k_ hs_.symm; omega) | (have h_ := O3.out.1 k_ hs_.symm; omega)))); have N7 := Aside0.mk (Kd.R_step O7.out (fun k_ hq_ hlt_ => hkp.2 k_ hlt_ (fun hs_ => by rcases hs_ with hs_ | hs_ | hs_ | hs_ <;> first | (have h_ := O0.out.1 k_ hs_.symm; omega) | (have h_ := O1.out.1 k_ hs_.symm; omega) | (have h_ := O2.out.1 k_ hs_.symm; omega) | (have h_ := O3.out.1 k_ hs_.symm; omega)))); have BK1 := Aside0.mk (blk_kept BK.out hkp (fun hs_ => by rcases hs_ with hs_ | hs_ | hs_ | hs_ <;> first | exact (Kd.R_ne O0.out BK.out (by decide)) hs_ | exact (Kd.R_ne O1.out BK.out (by decide)) hs_ | exact (Kd.R_ne O2.out BK.out (by decide)) hs_ | exact (Kd.R_ne O3.out BK.out (by decide)) hs_)); have HK1 := Aside0.mk (HK.out.then_ hkp (fun k_ hs_ => .inl (show col k_ < 8 from by rcases hs_ with hs_ | hs_ | hs_ | hs_ <;> first | (have h_ := O0.out.1 k_ hs_.symm; omega) | (have h_ := O1.out.1 k_ hs_.symm; omega) | (have h_ := O2.out.1 k_ hs_.symm; omega) | (have h_ := O3.out.1 k_ hs_.symm; omega)))); clear HK HB BK O0 O1 O2 O3 O6 O7; have HK := HK1; have BK := BK1; have HB := Aside0.mk hb; clear HK1 BK1 hb hkp; have O0 := N0; have O1 := N1; have O2 := N2; have O3 := N3; have O6 := N6; have O7 := N7; clear N0 N1 N2 N3 N6 N7 y0 y1 y2 y3; have hcz0 : w11.cell? ⟨gb, 0, none⟩ = some (.slice A0 l0.length c0) := (blk_cell BK.out 0).trans rfl; have hcz1 : w11.cell? ⟨gb, 1, none⟩ = some (.slice A1 l1.length c1) := (blk_cell BK.out 1).trans rfl; have hcz2 : w11.cell? ⟨gb, 2, none⟩ = some (.slice A2 l2.length c2) := (blk_cell BK.out 2).trans rfl; have hcz3 : w11.cell? ⟨gb, 3, none⟩ = some (.slice A3 l3.length c3) := (blk_cell BK.out 3).trans rfl; have hcz4 : w11.cell? ⟨gb, 4, none⟩ = some (.int .i64 a4) := (blk_cell BK.out 4).trans rfl; have hcz5 : w11.cell? ⟨gb, 5, none⟩ = some (.int .i64 a5) := (blk_cell BK.out 5).trans rfl; have hcz6 : w11.cell? ⟨gb, 6, none⟩ = some (.slice A6 l6.length c6) := (blk_cell BK.out 6).trans rfl; have hcz7 : w11.cell? ⟨gb, 7, none⟩ = some (.slice A7 l7.length c7) := (blk_cell BK.out 7).trans rfl) | (go_at_call 77; (refine (laws_markIntSS.calls k (fun k_ => col k_ = 6 ∧ k_ ≠ gb) (.slice A6 l6.length c6) l6 t s t6 w0 _ HB.out (Kd.S_types O6.out BK.out (by decide)) M2.out).mono ?_); rintro e w12 ⟨rfl, y6, hb, hkp⟩; have N0 := Aside0.mk (Kd.R_step O0.out (fun k_ hq_ hlt_ => hkp.2 k_ hlt_ (fun hs_ => by have h_ := hs_.1; omega))); have N1 := Aside0.mk (Kd.R_step O1.out (fun k_ hq_ hlt_ => hkp.2 k_ hlt_ (fun hs_ => by have h_ := hs_.1; omega))); have N2 := Aside0.mk (Kd.R_step O2.out (fun k_ hq_ hlt_ => hkp.2 k_ hlt_ (fun hs_ => by have h_ := hs_.1; omega))); have N3 := Aside0.mk (Kd.R_step O3.out (fun k_ hq_ hlt_ => hkp.2 k_ hlt_ (fun hs_ => by have h_ := hs_.1; omega))); have N6 := Aside0.mk (Kd.S_mono y6 (fun k_ hk_ => hk_.1)); have N7 := Aside0.mk (Kd.R_step O7.out (fun k_ hq_ hlt_ => hkp.2 k_ hlt_ (fun hs_ => by have h_ := hs_.1; omega))); have BK1 := Aside0.mk (blk_kept BK.out hkp (fun hs_ => hs_.2 rfl)); have HK1 := Aside0.mk (HK.out.then_ hkp (fun k_ hs_ => .inl (show col k_ < 8 from by have h_ := hs_.1; omega))); clear HK HB BK O0 O1 O2 O3 O6 O7; have HK := HK1; have BK := BK1; have HB := Aside0.mk hb; clear HK1 BK1 hb hkp; have O0 := N0; have O1 := N1; have O2 := N2; have O3 := N3; have O6 := N6; have O7 := N7; clear N0 N1 N2 N3 N6 N7 y6; have hcz0 : w12.cell? ⟨gb, 0, none⟩ = some (.slice A0 l0.length c0) := (blk_cell BK.out 0).trans rfl; have hcz1 : w12.cell? ⟨gb, 1, none⟩ = some (.slice A1 l1.length c1) := (blk_cell BK.out 1).trans rfl; have hcz2 : w12.cell? ⟨gb, 2, none⟩ = some (.slice A2 l2.length c2) := (blk_cell BK.out 2).trans rfl; have hcz3 : w12.cell? ⟨gb, 3, none⟩ = some (.slice A3 l3.length c3) := (blk_cell BK.out 3).trans rfl; have hcz4 : w12.cell? ⟨gb, 4, none⟩ = some (.int .i64 a4) := (blk_cell BK.out 4).trans rfl; have hcz5 : w12.cell? ⟨gb, 5, none⟩ = some (.int .i64 a5) := (blk_cell BK.out 5).trans rfl; have hcz6 : w12.cell? ⟨gb, 6, none⟩ = some (.slice A6 l6.length c6) := (blk_cell BK.out 6).trans rfl; have hcz7 : w12.cell? ⟨gb, 7, none⟩ = some (.slice A7 l7.length c7) := (blk_cell BK.out 7).trans rfl) | (go_at_call 34; (refine (laws_markIntS.calls k (fun k_ => some k_ = (.slice A7 l7.length c7 : Value).ownBlock) (.slice A7 l7.length c7) l7 s v t7 w0 _ HB.out (Kd.R_tight rfl O7.out) M3.out).mono ?_); rintro e w13 ⟨rfl, y7, hb, hkp⟩; have N0 := Aside0.mk (Kd.R_step O0.out (fun k_ hq_ hlt_ => hkp.2 k_ hlt_ (fun hs_ => by rcases hs_ with hs_ <;> first | (have h_ := O7.out.1 k_ hs_.symm; omega)))); have N1 := Aside0.mk (Kd.R_step O1.out (fun k_ hq_ hlt_ => hkp.2 k_ hlt_ (fun hs_ => by rcases hs_ with hs_ <;> first | (have h_ := O7.out.1 k_ hs_.symm; omega)))); have N2 := Aside0.mk (Kd.R_step O2.out (fun k_ hq_ hlt_ => hkp.2 k_ hlt_ (fun hs_ => by rcases hs_ with hs_ <;> first | (have h_ := O7.out.1 k_ hs_.symm; omega)))); have N3 := Aside0.mk (Kd.R_step O3.out (fun k_ hq_ hlt_ => hkp.2 k_ hlt_ (fun hs_ => by rcases hs_ with hs_ <;> first | (have h_ := O7.out.1 k_ hs_.symm; omega)))); have N6 := Aside0.mk (Kd.S_step O6.out (fun k_ hq_ hlt_ => hkp.2 k_ hlt_ (fun hs_ => by rcases hs_ with hs_ <;> first | (have h_ := O7.out.1 k_ hs_.symm; omega)))); have N7 := Aside0.mk (Kd.R_reok rfl y7 O7.out.1); have BK1 := Aside0.mk (blk_kept BK.out hkp (fun hs_ => by rcases hs_ with hs_ <;> first | exact (Kd.R_ne O7.out BK.out (by decide)) hs_)); have HK1 := Aside0.mk (HK.out.then_ hkp (fun k_ hs_ => .inl (show col k_ < 8 from by rcases hs_ with hs_ <;> first | (have h_ := O7.out.1 k_ hs_.symm; omega)))); clear HK HB BK O0 O1 O2 O3 O6 O7; have HK := HK1; have BK := BK1; have HB := Aside0.mk hb; clear HK1 BK1 hb hkp; have O0 := N0; have O1 := N1; have O2 := N2; have O3 := N3; have O6 := N6; have O7 := N7; clear N0 N1 N2 N3 N6 N7 y7; have hcz0 : w13.cell? ⟨gb, 0, none⟩ = some (.slice A0 l0.length c0) := (blk_cell BK.out 0).trans rfl; have hcz1 : w13.cell? ⟨gb, 1, none⟩ = some (.slice A1 l1.length c1) := (blk_cell BK.out 1).trans rfl; have hcz2 : w13.cell? ⟨gb, 2, none⟩ = some (.slice A2 l2.length c2) := (blk_cell BK.out 2).trans rfl; have hcz3 : w13.cell? ⟨gb, 3, none⟩ = some (.slice A3 l3.length c3) := (blk_cell BK.out 3).trans rfl; have hcz4 : w13.cell? ⟨gb, 4, none⟩ = some (.int .i64 a4) := (blk_cell BK.out 4).trans rfl; have hcz5 : w13.cell? ⟨gb, 5, none⟩ = some (.int .i64 a5) := (blk_cell BK.out 5).trans rfl; have hcz6 : w13.cell? ⟨gb, 6, none⟩ = some (.slice A6 l6.length c6) := (blk_cell BK.out 6).trans rfl; have hcz7 : w13.cell? ⟨gb, 7, none⟩ = some (.slice A7 l7.length c7) := (blk_cell BK.out 7).trans rfl))
 go_ret
 exact ⟨rfl, O0.out, O1.out, O2.out, O3.out, O6.out, O7.out, HB.out, HK.out⟩

def laws_markStore.f (k : Nat) (l0 l1 : List ByteArray) (l2 : List Bool) (l3 : List Int) (a4 a5 : Int) (l6 : List (List Int)) (l7 : List Int) (a1 : Int) : Option (Int × List ByteArray × List ByteArray × List Bool × List Int × List Int) :=
 (laws_markStore_col.f k l0 l1 l2 l3 a4 a5 l6 l7 a1).bind fun p => some (p.1, p.2.1, p.2.2.1, p.2.2.2.1, p.2.2.2.2.1, p.2.2.2.2.2.2)
theorem laws_markStore.mono : ∀ a0 a1 a2 a3 a4 a5 a6 a7 a8 k, LeO (laws_markStore.f k a0 a1 a2 a3 a4 a5 a6 a7 a8) (laws_markStore.f (k + 1) a0 a1 a2 a3 a4 a5 a6 a7 a8) := by
 intro a0 a1 a2 a3 a4 a5 a6 a7 a8 k
 exact LeO.bind (laws_markStore_col.mono _ _ _ _ _ _ _ _ _ _) (fun _ => LeO.refl _)
theorem laws_markStore.tne {w : World} {k e e' : Nat} (h : ∃ cells, w.heap[k]? = some (.cells cells e (0, 0))) (h' : ∃ cells, w.heap[k]? = some (.cells cells e' (0, 0))) (hn : e ≠ e') : False := by
 obtain ⟨c, h⟩ := h
 obtain ⟨c', h'⟩ := h'
 rw [h] at h'
 injection h' with h'
 injection h' with _ h'
 exact hn h'
open Classical in
theorem laws_markStore.calls (k : Nat) (P0_0_ : Nat → Prop) (u9000_ : Value) (l0_0 : List ByteArray) (P0_1_ : Nat → Prop) (u9001_ : Value) (l0_1 : List ByteArray) (P0_2_ : Nat → Prop) (u9002_ : Value) (l0_2 : List Bool) (P0_3_ : Nat → Prop) (u9003_ : Value) (l0_3 : List Int) (a0_4 : Int) (a0_5 : Int) (P0_6_ : Nat → Prop) (u9004_ : Value) (l0_6 : List (List Int)) (P0_7_ : Nat → Prop) (u9005_ : Value) (l0_7 : List Int) (a1 : Int) (r1 : Int) (r2 r3 : List ByteArray) (r4 : List Bool) (r5 : List Int) (r6 : List Int) (w0 w : World) (hB : Below w0.heap.size w0 w)
  (ho0_0 : Kd.R Kd.string 9 w w0.heap.size P0_0_ u9000_ l0_0) (hp0_0_0_1 : ∀ k_, P0_0_ k_ → ¬ P0_1_ k_) (ho0_1 : Kd.R Kd.string 9 w w0.heap.size P0_1_ u9001_ l0_1) (hp0_1_0_0 : ∀ k_, P0_1_ k_ → ¬ P0_0_ k_) (ho0_2 : Kd.R Kd.bool 4 w w0.heap.size P0_2_ u9002_ l0_2)
  (ho0_3 : Kd.R (Kd.int .i64) 3 w w0.heap.size P0_3_ u9003_ l0_3) (hp0_3_0_7 : ∀ k_, P0_3_ k_ → ¬ P0_7_ k_) (ho0_6 : Kd.S (Kd.slice 3 (Kd.int .i64)) 26 w w0.heap.size P0_6_ u9004_ l0_6) (hq6 : ∀ k_, P0_6_ k_ → some k_ ≠ (u9000_ : Value).ownBlock ∧ some k_ ≠ (u9001_ : Value).ownBlock ∧ some k_ ≠ (u9002_ : Value).ownBlock ∧ some k_ ≠ (u9003_ : Value).ownBlock ∧ some k_ ≠ (u9005_ : Value).ownBlock) (ho0_7 : Kd.R (Kd.int .i64) 3 w w0.heap.size P0_7_ u9005_ l0_7) (hp0_7_0_3 : ∀ k_, P0_7_ k_ → ¬ P0_3_ k_)
  (h : laws_markStore.f k l0_0 l0_1 l0_2 l0_3 a0_4 a0_5 l0_6 l0_7 a1 = some (r1, r2, r3, r4, r5, r6)) :
  Calls Try.prog 33 #[.agg #[u9000_, u9001_, u9002_, u9003_, .int .i64 a0_4, .int .i64 a0_5, u9004_, u9005_], .int .i64 a1] w fun e w' => e = .returned (.int .i64 r1) ∧ Kd.R Kd.string 9 w' w0.heap.size P0_0_ u9000_ r2 ∧ Kd.R Kd.string 9 w' w0.heap.size P0_1_ u9001_ r3 ∧ Kd.R Kd.bool 4 w' w0.heap.size P0_2_ u9002_ r4 ∧ Kd.R (Kd.int .i64) 3 w' w0.heap.size P0_3_ u9003_ r5 ∧ Kd.R (Kd.int .i64) 3 w' w0.heap.size P0_7_ u9005_ r6 ∧ Below w0.heap.size w0 w' ∧ Kept w w' (fun k_ => P0_0_ k_ ∨ P0_1_ k_ ∨ P0_2_ k_ ∨ P0_3_ k_ ∨ P0_6_ k_ ∨ P0_7_ k_) := by
 obtain ⟨⟨q1, q2, q3, q4, q5, q6, q7⟩, hm, h⟩ := Option.bind_eq_some_iff.mp h
 simp only [Option.some.injEq, Prod.mk.injEq] at h
 obtain ⟨rfl, rfl, rfl, rfl, rfl, rfl⟩ := h
 refine (laws_markStore_col.calls k (fun k_ => if some k_ = (u9000_ : Value).ownBlock then 0 else if some k_ = (u9001_ : Value).ownBlock then 1 else if some k_ = (u9002_ : Value).ownBlock then 2 else if some k_ = (u9003_ : Value).ownBlock then 3 else if some k_ = (u9005_ : Value).ownBlock then 7 else if P0_6_ k_ then 6 else 8) u9000_ u9001_ u9002_ u9003_ u9004_ u9005_ l0_0 l0_1 l0_2 l0_3 a0_4 a0_5 l0_6 l0_7 a1 q1 q2 q3 q4 q5 q6 q7 w0 w hB ?_ ?_ ?_ ?_ ?_ ?_ hm).mono ?_
 ·refine Kd.R_reok rfl ho0_0 (fun k_ e0_ => ?_)
  have e_ := e0_.symm
  show (if _ then _ else _) = _
  rw [if_pos e_]
 ·refine Kd.R_reok rfl ho0_1 (fun k_ e0_ => ?_)
  have e_ := e0_.symm
  show (if _ then _ else _) = _
  rw [if_neg (fun e2_ => hp0_1_0_0 k_ (ho0_1.1 k_ e_.symm) (ho0_0.1 k_ e2_.symm))]
  rw [if_pos e_]
 ·refine Kd.R_reok rfl ho0_2 (fun k_ e0_ => ?_)
  have e_ := e0_.symm
  show (if _ then _ else _) = _
  rw [if_neg (fun e2_ => laws_markStore.tne (Kd.R_typed ho0_2 k_ e_.symm) (Kd.R_typed ho0_0 k_ e2_.symm) (by decide))]
  rw [if_neg (fun e2_ => laws_markStore.tne (Kd.R_typed ho0_2 k_ e_.symm) (Kd.R_typed ho0_1 k_ e2_.symm) (by decide))]
  rw [if_pos e_]
 ·refine Kd.R_reok rfl ho0_3 (fun k_ e0_ => ?_)
  have e_ := e0_.symm
  show (if _ then _ else _) = _
  rw [if_neg (fun e2_ => laws_markStore.tne (Kd.R_typed ho0_3 k_ e_.symm) (Kd.R_typed ho0_0 k_ e2_.symm) (by decide))]
  rw [if_neg (fun e2_ => laws_markStore.tne (Kd.R_typed ho0_3 k_ e_.symm) (Kd.R_typed ho0_1 k_ e2_.symm) (by decide))]
  rw [if_neg (fun e2_ => laws_markStore.tne (Kd.R_typed ho0_3 k_ e_.symm) (Kd.R_typed ho0_2 k_ e2_.symm) (by decide))]
  rw [if_pos e_]
 ·refine Kd.S_mono ho0_6 (fun k_ h6_ => ?_)
  obtain ⟨n0, n1, n2, n3, n7⟩ := hq6 k_ h6_
  show (if _ then _ else _) = _
  rw [if_neg n0, if_neg n1, if_neg n2, if_neg n3, if_neg n7, if_pos h6_]
 ·refine Kd.R_reok rfl ho0_7 (fun k_ e0_ => ?_)
  have e_ := e0_.symm
  show (if _ then _ else _) = _
  rw [if_neg (fun e2_ => laws_markStore.tne (Kd.R_typed ho0_7 k_ e_.symm) (Kd.R_typed ho0_0 k_ e2_.symm) (by decide))]
  rw [if_neg (fun e2_ => laws_markStore.tne (Kd.R_typed ho0_7 k_ e_.symm) (Kd.R_typed ho0_1 k_ e2_.symm) (by decide))]
  rw [if_neg (fun e2_ => laws_markStore.tne (Kd.R_typed ho0_7 k_ e_.symm) (Kd.R_typed ho0_2 k_ e2_.symm) (by decide))]
  rw [if_neg (fun e2_ => hp0_7_0_3 k_ (ho0_7.1 k_ e_.symm) (ho0_3.1 k_ e2_.symm))]
  rw [if_pos e_]
 ·rintro e w' ⟨rfl, y0, y1, y2, y3, _, y7, hb, hk⟩
  refine ⟨rfl, Kd.R_reok rfl y0 ho0_0.1, Kd.R_reok rfl y1 ho0_1.1, Kd.R_reok rfl y2 ho0_2.1, Kd.R_reok rfl y3 ho0_3.1, Kd.R_reok rfl y7 ho0_7.1, hb, hk.mono (fun k_ h_ => ?_)⟩
  by_cases c0 : some k_ = (u9000_ : Value).ownBlock
  ·exact .inl (ho0_0.1 k_ c0.symm)
  by_cases c1 : some k_ = (u9001_ : Value).ownBlock
  ·exact .inr (.inl (ho0_1.1 k_ c1.symm))
  by_cases c2 : some k_ = (u9002_ : Value).ownBlock
  ·exact .inr (.inr (.inl (ho0_2.1 k_ c2.symm)))
  by_cases c3 : some k_ = (u9003_ : Value).ownBlock
  ·exact .inr (.inr (.inr (.inl (ho0_3.1 k_ c3.symm))))
  by_cases c7 : some k_ = (u9005_ : Value).ownBlock
  ·exact .inr (.inr (.inr (.inr (.inr (ho0_7.1 k_ c7.symm)))))
  by_cases c6 : P0_6_ k_
  ·exact .inr (.inr (.inr (.inr (.inl c6))))
  ·exfalso
   have h2 : (if some k_ = (u9000_ : Value).ownBlock then 0 else if some k_ = (u9001_ : Value).ownBlock then 1 else if some k_ = (u9002_ : Value).ownBlock then 2 else if some k_ = (u9003_ : Value).ownBlock then 3 else if some k_ = (u9005_ : Value).ownBlock then 7 else if P0_6_ k_ then 6 else 8) < 8 := h_
   rw [if_neg c0, if_neg c1, if_neg c2, if_neg c3, if_neg c7, if_neg c6] at h2
   omega

/-! ### laws_heldIntS: function 35 -/
def laws_heldIntS.l0 : Nat → List Int → Int → Int → Option (Int)
 | 0, _, _, _ => none
 | k + 1, x0, x1, x5 => if x5 < (x0.length : Int) then (if 0 ≤ x5 then (if (rd x0 x5) = x1 then (laws_heldIntS.l0 k x0 (wrap64 (x1 + 1)) (wrap64 (x5 + 1))) else (some (-1))) else (none)) else (some x1)
def laws_heldIntS.f (k : Nat) (l0 : List Int) (a1 : Int) : Option (Int) := laws_heldIntS.l0 k l0 a1 0
theorem laws_heldIntS.mono_l : ∀ k, (∀ y0 y1 y2, LeO (laws_heldIntS.l0 k y0 y1 y2) (laws_heldIntS.l0 (k + 1) y0 y1 y2))
 | 0 => fun _ _ _ r h => by simp [laws_heldIntS.l0] at h
 | k + 1 => by
  have ih0 := laws_heldIntS.mono_l k
  ·intro y0 y1 y2
   unfold laws_heldIntS.l0
   repeat' first
   | (with_reducible exact ih0 _ _ _)
   | (with_reducible exact LeO.refl _)
   | (with_reducible exact LeO.none _)
   | (with_reducible refine LeO.ite ?_ ?_)
   | (with_reducible refine LeO.bind ?_ (fun _ => ?_))
   | exact ih0 _ _ _
   | exact LeO.none _
   | refine LeO.ite ?_ ?_
   | refine LeO.bind ?_ (fun _ => ?_)
theorem laws_heldIntS.mono : ∀ a0 a1 k, LeO (laws_heldIntS.f k a0 a1) (laws_heldIntS.f (k + 1) a0 a1) := by
 intro a0 a1 k
 have ih0 := laws_heldIntS.mono_l k
 unfold laws_heldIntS.f
 repeat' first
   | (with_reducible exact ih0 _ _ _)
   | (with_reducible exact LeO.refl _)
   | (with_reducible exact LeO.none _)
   | (with_reducible refine LeO.ite ?_ ?_)
   | (with_reducible refine LeO.bind ?_ (fun _ => ?_))
   | exact ih0 _ _ _
   | exact LeO.none _
   | refine LeO.ite ?_ ?_
   | refine LeO.bind ?_ (fun _ => ?_)
set_option maxHeartbeats 8000000 in
set_option maxRecDepth 100000 in
theorem laws_heldIntS.calls (k : Nat) (A0 : Option Addr) (c0 : Nat) (l0 : List Int) (a1 : Int) (r : Int) (w : World) (hr0 : Kd.C (Kd.int .i64) w A0 l0.length l0) (hc0 : l0.length ≤ c0) (h : laws_heldIntS.f k l0 a1 = some r) :
  Calls Try.prog 35 #[.slice A0 l0.length c0, .int .i64 a1] w fun e w' => e = .returned (.int .i64 r) ∧ Drawn0 w w' := by
 have HR0 := Aside0.mk hr0
 have HC0 := Aside0.mk hc0
 clear hr0 hc0
 have H : (laws_heldIntS.l0 k l0 a1 0) = some r := h
 clear h
 have H' := Aside0.mk H
 clear H
 go_enter Try.func35, Try.ntmps35
 go_wp2
 go_loopg [1, 5] k (fun kq v1 v5 w' => ∃ (x1_1 : Int) (x5_1 : Int), v1 = .int .i64 x1_1 ∧ v5 = .int .i64 x5_1 ∧ Aside0 (laws_heldIntS.l0 kq l0 x1_1 x5_1 = some r) ∧ Aside0 (kq ≤ k) ∧ Drawn0 w w')
 case atStart => exact ⟨(a1), (0), (by first | rfl | (simp; done) | (simp [*]; done)), (by first | rfl | (simp; done) | (simp [*]; done)), H', ⟨Nat.le_refl _⟩, by repeat (first | exact Drawn0.refl _ | apply Drawn0.step)⟩
 case round =>
  clear H'
  try clear p2
  obtain ⟨x1_1, x5_1, rfl, rfl, HA, HK1, ⟨m1, rfl⟩⟩ := hrel
  cases gk with
  | zero => exact absurd HA.out (by simp [laws_heldIntS.l0])
  | succ k1 =>
   have H := HA.out
   clear HA
   simp only [laws_heldIntS.l0] at H
   by_cases c3 : x5_1 < (l0.length : Int)
   ·rw [if_pos c3] at H
    have c3b0 : decide (x5_1 < (l0.length : Int)) = true := decide_eq_true c3
    clear c3
    by_cases c4 : 0 ≤ x5_1
    ·rw [if_pos c4] at H
     have c4b0 : decide (0 ≤ x5_1) = true := decide_eq_true c4
     clear c4
     by_cases c5 : (rd l0 x5_1) = x1_1
     ·rw [if_pos c5] at H
      have c5b0 : ((rd l0 x5_1) == x1_1) = true := beq_iff_eq.mpr c5
      have c5b1 : ((rd l0 x5_1) != x1_1) = false := bne_eq_false_iff_eq.mpr c5
      clear c5
      have H' := Aside0.mk H
      clear H
      have p321 : 0 ≤ (x5_1 : Int) := of_decide_eq_true (by first | (with_reducible assumption) | assumption)
      have q321 : x5_1 < (l0.length : Int) := of_decide_eq_true (by first | (with_reducible assumption) | assumption)
      obtain ⟨ad321, e321, hx321_0⟩ := Kd.at_int HR0.out x5_1 p321 q321
      cases e321
      replace p321 := eq_true p321
      replace q321 := eq_true q321
      go_wp2
      go_roundg k1
      case measure => have := HK1.out; omega
      case rel => exact ⟨(wrap64 (x1_1 + 1)), (wrap64 (x5_1 + 1)), (by first | rfl | (simp; done) | (simp [*]; done)), (by first | rfl | (simp; done) | (simp [*]; done)), H', ⟨by have := HK1.out; omega⟩, by repeat (first | exact Drawn0.refl _ | apply Drawn0.step)⟩
     ·rw [if_neg c5] at H
      have c5b0 : ((rd l0 x5_1) == x1_1) = false := beq_eq_false_iff_ne.mpr c5
      have c5b1 : ((rd l0 x5_1) != x1_1) = true := bne_iff_ne.mpr c5
      obtain rfl := Option.some.inj H
      have p321 : 0 ≤ (x5_1 : Int) := of_decide_eq_true (by first | (with_reducible assumption) | assumption)
      have q321 : x5_1 < (l0.length : Int) := of_decide_eq_true (by first | (with_reducible assumption) | assumption)
      obtain ⟨ad321, e321, hx321_0⟩ := Kd.at_int HR0.out x5_1 p321 q321
      cases e321
      replace p321 := eq_true p321
      replace q321 := eq_true q321
      go_wp2
      go_ret
      exact ⟨by first | rfl | (simp; done) | (simp [*]; done), by repeat (first | exact Drawn0.refl _ | apply Drawn0.step)⟩
    ·rw [if_neg c4] at H
     exact absurd H (by simp)
   ·rw [if_neg c3] at H
    have c3b0 : decide (x5_1 < (l0.length : Int)) = false := decide_eq_false c3
    clear c3
    obtain rfl := Option.some.inj H
    go_wp2
    go_ret
    exact ⟨by first | rfl | (simp; done) | (simp [*]; done), by repeat (first | exact Drawn0.refl _ | apply Drawn0.step)⟩

end Go.Proofs.Ytgnijlfakjjfcaa.XFnExactUsesIn
