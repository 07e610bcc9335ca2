-- Written by xprint.py of this session: out of the translation, by the kit's print with contracts of this session.
import Derived.Test.YtemnidhllbbjnaaXFnExactRehashTox0
import Derived.Test.YtemnidhllbbjnaaXFnExactRehashTox8
import Derived.Test.YtemnidhllbbjnaaXFnExactRehashTox9
import Derived.Test.YtemnidhllbbjnaaXFnExactRehashTox10
namespace Go.Proofs.Ytemnidhllbbjnaa.XFnExactRehashTo
open Go.RowKit Go.Proofs.YtemnidhllbbjnaaW.PrintWords Go.Proofs.YtemnidhllbbjnaaW.PrintLast Go.Proofs.YtemnidhllbbjnaaW.PrintMore
open Go.Proofs.Ytemnidhllbbjnaa.Min0
attribute [local go_sem] max2_int min2_int max_two min_two max_three min_three max_four min_four   -- for this text's walks alone
set_option linter.unusedVariables false
set_option linter.unusedSimpArgs false

/-! ### impl_put: function 55 -/
theorem row_setv {b : Nat} {W : World} {g c n : Nat} {l : List S79} (h : Kd.R k79 79 W b (fun k => k = g) (.slice (some ⟨g, 0, none⟩) n c) l) (i : Int) (h0 : 0 ≤ i) (h1 : i < (n : Int)) (v : Int) :
  Kd.R k79 79 (W.setCell ⟨g, i.toNat * 3 + 2, none⟩ (.int .i64 v)) b (fun k => k = g) (.slice (some ⟨g, 0, none⟩) n c) (l.set i.toNat ⟨(rd_T79 l i).f0, (rd_T79 l i).f1, v⟩) := by
 obtain ⟨ce, hcl, hM, hcc, hfr⟩ := Kd.R_elem h z79 i h0 h1
 obtain rfl := k79_openM hM
 exact (Kd.R_seg h i h0 h1 (seg := [.int .i64 v]) (j := 2) hcl hcc (show 3 ≤ 3 from by decide) (x' := ⟨(rd_T79 l i).f0, (rd_T79 l i).f1, v⟩) (k79_mkM _ _ _ (⟨(rd_T79 l i).f0, (rd_T79 l i).f1, v⟩ : S79)) (fun _ hk => hk)).1
theorem Tb.val1 {b : Nat} {W : World} {g1 g2 c1 c2 n1 n2 : Nat} {l1 l2 : List S79} (h : Tb b W g1 g2 c1 c2 n1 n2 l1 l2) (i : Int) (h0 : 0 ≤ i) (h1 : i < (n1 : Int)) (v : Int) : Tb b (W.setCell ⟨g1, i.toNat * 3 + 2, none⟩ (.int .i64 v)) g1 g2 c1 c2 n1 n2 (l1.set i.toNat ⟨(rd_T79 l1 i).f0, (rd_T79 l1 i).f1, v⟩) l2 :=
 ⟨row_setv h.1 i h0 h1 v, Kd.R_far h.2.1 (fun k hk => by rw [hk]; exact h.2.2.1.symm) _, h.2.2.1, h.2.2.2.1, h.2.2.2.2.1, by rw [setCell_size]; exact h.2.2.2.2.2.1, by rw [setCell_size]; exact h.2.2.2.2.2.2⟩
theorem Tb.val2 {b : Nat} {W : World} {g1 g2 c1 c2 n1 n2 : Nat} {l1 l2 : List S79} (h : Tb b W g1 g2 c1 c2 n1 n2 l1 l2) (i : Int) (h0 : 0 ≤ i) (h1 : i < (n2 : Int)) (v : Int) : Tb b (W.setCell ⟨g2, i.toNat * 3 + 2, none⟩ (.int .i64 v)) g1 g2 c1 c2 n1 n2 l1 (l2.set i.toNat ⟨(rd_T79 l2 i).f0, (rd_T79 l2 i).f1, v⟩) :=
 ⟨Kd.R_far h.1 (fun k hk => by rw [hk]; exact h.2.2.1) _, row_setv h.2.1 i h0 h1 v, h.2.2.1, h.2.2.2.1, h.2.2.2.2.1, by rw [setCell_size]; exact h.2.2.2.2.2.1, by rw [setCell_size]; exact h.2.2.2.2.2.2⟩
def impl_put.l0 : Nat → Int → Int → List S79 → List S79 → Bool → Int → Int → Int → Int → Option (Int × List S79 × List S79 × Int × Int × Bool)
 | 0, _, _, _, _, _, _, _, _, _ => none
 | k + 1, x, a0, l1, l2, b, ky, v, o1, o4 => if x ≤ 24 then ((impl_placesOf.f a0 ky).bind fun p => if (0 ≤ p.1 ∧ p.1 < (l1.length : Int)) ∧ 0 ≤ p.2 ∧ p.2 < (l2.length : Int) then (if Int.tmod x 2 = 1 then (if (rd_T79 l2 p.2).f0 = true then impl_put.l0 k (wrap64 (x + 1)) a0 l1 (l2.set p.2.toNat ⟨b, ky, v⟩) (rd_T79 l2 p.2).f0 (rd_T79 l2 p.2).f1 (rd_T79 l2 p.2).f2 o1 o4 else some (o1, l1, l2.set p.2.toNat ⟨b, ky, v⟩, wrap64 (o4 + 1), x, true))
   else (if (rd_T79 l1 p.1).f0 = true then impl_put.l0 k (wrap64 (x + 1)) a0 (l1.set p.1.toNat ⟨b, ky, v⟩) l2 (rd_T79 l1 p.1).f0 (rd_T79 l1 p.1).f1 (rd_T79 l1 p.1).f2 o1 o4 else some (o1, l1.set p.1.toNat ⟨b, ky, v⟩, l2, wrap64 (o4 + 1), x, true))) else none)
  else some (0, [], [], 0, 0, false)
def impl_put.f (k : Nat) (a0_0 : Int) (l0_1 l0_2 : List S79) (a0_3 a1 a2 : Int) : Option (Int × List S79 × List S79 × Int × Int × Bool) :=
 (impl_ownTable.f a0_0 l0_1 l0_2 a0_3).bind fun o => (impl_Table_find.f o.1 o.2.1 o.2.2.1 a1).bind fun p => if p.1 = 1 then some (o.1, o.2.1.set p.2.toNat ⟨(rd_T79 o.2.1 p.2).f0, (rd_T79 o.2.1 p.2).f1, a2⟩, o.2.2.1, o.2.2.2, 0, true) else if p.1 = 2 then some (o.1, o.2.1, o.2.2.1.set p.2.toNat ⟨(rd_T79 o.2.2.1 p.2).f0, (rd_T79 o.2.2.1 p.2).f1, a2⟩, o.2.2.2, 0, true) else impl_put.l0 k 0 a0_0 o.2.1 o.2.2.1 true a1 a2 o.1 o.2.2.2
theorem impl_put.mono_l : ∀ k x a0 l1 l2 b ky v o1 o4, LeO (impl_put.l0 k x a0 l1 l2 b ky v o1 o4) (impl_put.l0 (k + 1) x a0 l1 l2 b ky v o1 o4)
 | 0 => fun _ _ _ _ _ _ _ _ _ r h => by simp [impl_put.l0] at h
 | k + 1 => by
  intro x a0 l1 l2 b ky v o1 o4
  unfold impl_put.l0
  exact LeO.ite (LeO.bind (LeO.refl _) (fun _ => LeO.ite (LeO.ite (LeO.ite (impl_put.mono_l k _ _ _ _ _ _ _ _ _) (LeO.refl _)) (LeO.ite (impl_put.mono_l k _ _ _ _ _ _ _ _ _) (LeO.refl _))) (LeO.refl _))) (LeO.refl _)
theorem impl_put.mono : ∀ a0 a1 a2 a3 a4 a5 k, LeO (impl_put.f k a0 a1 a2 a3 a4 a5) (impl_put.f (k + 1) a0 a1 a2 a3 a4 a5) := by
 intro a0 a1 a2 a3 a4 a5 k
 unfold impl_put.f
 exact LeO.bind (LeO.refl _) (fun _ => LeO.bind (LeO.refl _) (fun _ => LeO.ite (LeO.refl _) (LeO.ite (LeO.refl _) (impl_put.mono_l k _ _ _ _ _ _ _ _ _))))
set_option maxHeartbeats 8000000 in
set_option maxRecDepth 100000 in
theorem impl_put.calls (k : Nat) (a0_0 : Int) (A0_1 : Option Addr) (c0_1 : Nat) (l0_1 : List (S79)) (A0_2 : Option Addr) (c0_2 : Nat) (l0_2 : List (S79)) (a0_3 : Int) (a1 : Int) (a2 : Int) (r1 : Int) (r2 : List (S79)) (r3 : List (S79)) (r4 : Int) (r5 : Int) (r6 : Bool) (w : World) (hr0_1 : Kd.C k79 w A0_1 l0_1.length l0_1) (hc0_1 : l0_1.length ≤ c0_1) (hr0_2 : Kd.C k79 w A0_2 l0_2.length l0_2) (hc0_2 : l0_2.length ≤ c0_2) (h : impl_put.f k a0_0 l0_1 l0_2 a0_3 a1 a2 = some (r1, r2, r3, r4, r5, r6)) :
  Calls Try.prog 55 #[.agg #[.int .i64 a0_0, .slice A0_1 l0_1.length c0_1, .slice A0_2 l0_2.length c0_2, .int .i64 a0_3], .int .i64 a1, .int .i64 a2] w fun e w' => ∃ v1_ v2_ : Value, e = .returned (.tuple #[.agg #[.int .i64 r1, v1_, v2_, .int .i64 r4], .int .i64 r5, .bool r6]) ∧ Kd.R k79 79 w' w.heap.size (fun k_ => some k_ ≠ (v2_ : Value).ownBlock) v1_ r2 ∧ Kd.R k79 79 w' w.heap.size (fun k_ => some k_ ≠ (v1_ : Value).ownBlock) v2_ r3 ∧ Below w.heap.size w w' := by
 have hu25 := Try.underlying25
 have hu79 := Try.underlying79
 have hr := Aside0.mk (And.intro hr0_1 (And.intro hc0_1 (And.intro hr0_2 hc0_2)))
 clear hr0_1 hc0_1 hr0_2 hc0_2
 obtain ⟨⟨o1, o2, o3, o4⟩, ho, h⟩ := Option.bind_eq_some_iff.mp h
 obtain ⟨⟨s, i⟩, hf, h⟩ := Option.bind_eq_some_iff.mp h
 have hO := Aside0.mk ho
 obtain ⟨p1, p2, hs⟩ := impl_Table_find.range hf
 have P1 := Aside0.mk p1
 have P2 := Aside0.mk p2
 clear ho p1 p2
 rcases hs with ⟨rfl, i0, i1⟩ | ⟨rfl, i0, i1⟩ | ⟨rfl, rfl⟩
 ·have hF := Aside0.mk hf
  clear hf
  have I0 := Aside0.mk i0
  have I1 := Aside0.mk i1
  clear i0 i1
  simp only [if_true, Option.some.injEq, Prod.mk.injEq] at h
  obtain ⟨rfl, rfl, rfl, rfl, rfl, rfl⟩ := h
  go_enter Try.func55, Try.ntmps55
  go_wp2_with (first | ((with_reducible refine gate_dst (N := 3) rfl ?_); refine box_event ?hg (N := 3) ?hd (cs := #[.int .i64 a0_0, .slice A0_1 l0_1.length c0_1, .slice A0_2 l0_2.length c0_2, .int .i64 a0_3]) (t := 25) ?hr ?_; (case hd => rfl); (case hg => rfl); (case hr => first | (go_simp; done) | (go_simp; rfl)); intro gt hg w1 hbox hb; have Ggt := Aside0.mk (show w.heap.size ≤ gt by rw [hg]; exact Nat.le_refl _); have HB := Aside0.mk hb; have Bgt := Aside0.mk hbox; clear hb hbox hg) | ((with_reducible refine gate_dst (N := 6) rfl ?_); refine box_event ?hg (N := 6) ?hd (cs := #[.int .i64 0, .slice none 0 0, .slice none 0 0, .int .i64 0]) (t := 25) ?hr ?_; (case hd => rfl); (case hg => rfl); (case hr => first | (go_simp; done) | (go_simp; rfl)); intro gr hg w2 hbox hb; have Ggr := Aside0.mk (show w.heap.size ≤ gr by rw [hg]; exact HB.out.size); have Ngt_gr := Aside0.mk (show gt ≠ gr by rw [hg]; exact Nat.ne_of_lt (blk_lt Bgt.out)); have Ngr_gt := Aside0.mk (show gr ≠ gt by rw [hg]; exact Nat.ne_of_gt (blk_lt Bgt.out)); replace HB := Aside0.mk (below_step HB.out hb); replace Bgt := Aside0.mk (blk_below Bgt.out hb); have Bgr := Aside0.mk hbox; clear hb hbox hg; obtain ⟨⟨hzgt_0, hzgt_1, hzgt_2, hzgt_3⟩, hfgt_0, hfgt_1, hfgt_2, hfgt_3⟩ := open4 Bgt.out) | (go_at_call 80; refine (impl_ownTable.calls a0_0 A0_1 c0_1 l0_1 A0_2 c0_2 l0_2 a0_3 o1 o2 o3 o4 _ (Kd.C_below hr.out.1 HB.out) hr.out.2.1 (Kd.C_below hr.out.2.2.1 HB.out) hr.out.2.2.2 hO.out).mono ?_; rintro e w3 ⟨v1, v2, rfl, y1, y2, hb⟩; have hs_ := HB.out.size; replace y1 := Kd.R_lower y1 hs_; replace y2 := Kd.R_lower y2 hs_; clear hs_; obtain ⟨g1, g2, c1, c2, rfl, rfl, hT⟩ := Tb.of y1 y2 P1.out P2.out; have TT := Aside0.mk hT; have M1gt := Aside0.mk (show g1 ≠ gt from fun e_ => Kd.R_ne y1 (blk_below Bgt.out hb) (by decide) (by rw [← e_]; rfl)); have M2gt := Aside0.mk (show g2 ≠ gt from fun e_ => Kd.R_ne y2 (blk_below Bgt.out hb) (by decide) (by rw [← e_]; rfl)); have M1gr := Aside0.mk (show g1 ≠ gr from fun e_ => Kd.R_ne y1 (blk_below Bgr.out hb) (by decide) (by rw [← e_]; rfl)); have M2gr := Aside0.mk (show g2 ≠ gr from fun e_ => Kd.R_ne y2 (blk_below Bgr.out hb) (by decide) (by rw [← e_]; rfl)); clear y1 y2 hT; replace HB := Aside0.mk (below_step HB.out hb); replace Bgt := Aside0.mk (blk_below Bgt.out hb); replace Bgr := Aside0.mk (blk_below Bgr.out hb); clear hb; clear hzgt_0 hfgt_0 hzgt_1 hfgt_1 hzgt_2 hfgt_2 hzgt_3 hfgt_3) | ((with_reducible refine gate_dst (N := 9) rfl ?_); refine box_event ?hg (N := 9) ?hd (cs := #[.int .i64 0, .slice none 0 0, .slice none 0 0, .int .i64 0]) (t := 25) ?hr ?_; (case hd => rfl); (case hg => rfl); (case hr => first | (go_simp; done) | (go_simp; rfl)); intro go hg w4 hbox hb; have Ggo := Aside0.mk (show w.heap.size ≤ go by rw [hg]; exact HB.out.size); have Ngt_go := Aside0.mk (show gt ≠ go by rw [hg]; exact Nat.ne_of_lt (blk_lt Bgt.out)); have Ngo_gt := Aside0.mk (show go ≠ gt by rw [hg]; exact Nat.ne_of_gt (blk_lt Bgt.out)); have Ngr_go := Aside0.mk (show gr ≠ go by rw [hg]; exact Nat.ne_of_lt (blk_lt Bgr.out)); have Ngo_gr := Aside0.mk (show go ≠ gr by rw [hg]; exact Nat.ne_of_gt (blk_lt Bgr.out)); have M1go := Aside0.mk (show g1 ≠ go by rw [hg]; exact Nat.ne_of_lt TT.out.2.2.2.2.2.1); have M2go := Aside0.mk (show g2 ≠ go by rw [hg]; exact Nat.ne_of_lt TT.out.2.2.2.2.2.2); replace HB := Aside0.mk (below_step HB.out hb); replace Bgt := Aside0.mk (blk_below Bgt.out hb); replace Bgr := Aside0.mk (blk_below Bgr.out hb); replace TT := Aside0.mk (TT.out.below hb); have Bgo := Aside0.mk hbox; clear hb hbox hg; obtain ⟨⟨hzgo_0, hzgo_1, hzgo_2, hzgo_3⟩, hfgo_0, hfgo_1, hfgo_2, hfgo_3⟩ := open4 Bgo.out) | ((with_reducible refine gate_store (t := 25) (p := 9) rfl ?_); refine store_event (t := 25) (p := 9) (v := ?vo_w5) (w1 := ((((w4.setCell ⟨go, 0, none⟩ (.int .i64 o1)).setCell ⟨go, 1, none⟩ (.slice (some ⟨g1, 0, none⟩) o2.length c1)).setCell ⟨go, 2, none⟩ (.slice (some ⟨g2, 0, none⟩) o3.length c2)).setCell ⟨go, 3, none⟩ (.int .i64 o4))) ?hg ?ho ?hn ?hr ?_; (case ho => rfl); (case hg => rfl); (case hn => rfl); (case hr => first | (go_simp; done) | (go_simp; rfl)); intro w5 hw; replace HB := Aside0.mk (below4 hw HB.out Ggo.out); replace Bgt := Aside0.mk (far4 hw Bgt.out Ngt_go.out); replace Bgr := Aside0.mk (far4 hw Bgr.out Ngr_go.out); replace Bgo := Aside0.mk (put4 hw Bgo.out); replace TT := Aside0.mk (tb4 hw TT.out M1go.out M2go.out); clear hw; clear hzgo_0 hfgo_0 hzgo_1 hfgo_1 hzgo_2 hfgo_2 hzgo_3 hfgo_3) | (go_at_call 66; refine (impl_Table_find.calls go g1 g2 c1 c2 o1 o4 o2 o3 a1 1 i _ Bgo.out (Kd.R_reads' TT.out.1).2.2 (Kd.R_reads' TT.out.2.1).2.2 hF.out).mono ?_; rintro e w6 ⟨he, hb⟩; replace he := he.trans (show _ = Ending.returned (.pointer (some ⟨g1, i.toNat * 3, none⟩)) from rfl); subst he; replace HB := Aside0.mk (below_step HB.out hb); replace Bgt := Aside0.mk (blk_below Bgt.out hb); replace Bgr := Aside0.mk (blk_below Bgr.out hb); replace Bgo := Aside0.mk (blk_below Bgo.out hb); replace TT := Aside0.mk (TT.out.below hb); clear hb; obtain ⟨⟨hx0, hx1, hx2⟩, hy0, hy1, hy2⟩ := row_open TT.out.1 i I0.out I1.out) | ((with_reducible refine gate_store (t := 3) (p := 25) rfl ?_); refine store_event (t := 3) (p := 25) (v := ?vo_w7) (w1 := (w6.setCell ⟨g1, i.toNat * 3 + 2, none⟩ (.int .i64 a2))) ?hg ?ho ?hn ?hr ?_; (case ho => rfl); (case hg => rfl); (case hn => rfl); (case hr => first | (go_simp; done) | (go_simp; rfl)); intro w7 hw; replace HB := Aside0.mk (show Below w.heap.size w w7 from by rw [hw]; exact below_set HB.out TT.out.2.2.2.1); replace Bgt := Aside0.mk (far1 hw Bgt.out M1gt.out.symm); replace Bgr := Aside0.mk (far1 hw Bgr.out M1gr.out.symm); replace Bgo := Aside0.mk (far1 hw Bgo.out M1go.out.symm); replace TT := Aside0.mk (show Tb w.heap.size w7 g1 g2 c1 c2 o2.length o3.length (o2.set i.toNat ⟨(rd_T79 o2 i).f0, (rd_T79 o2 i).f1, a2⟩) o3 from by rw [hw]; exact TT.out.val1 i I0.out I1.out a2); clear hw; obtain ⟨⟨hzgr_0, hzgr_1, hzgr_2, hzgr_3⟩, hfgr_0, hfgr_1, hfgr_2, hfgr_3⟩ := open4 Bgr.out; obtain ⟨⟨hzgo_0, hzgo_1, hzgo_2, hzgo_3⟩, hfgo_0, hfgo_1, hfgo_2, hfgo_3⟩ := open4 Bgo.out; (try clear hx0 hx1 hx2 hy0 hy1 hy2)) | ((with_reducible refine gate_store (t := 25) (p := 6) rfl ?_); refine store_event (t := 25) (p := 6) (v := ?vo_w8) (w1 := ((((w7.setCell ⟨gr, 0, none⟩ (.int .i64 o1)).setCell ⟨gr, 1, none⟩ (.slice (some ⟨g1, 0, none⟩) o2.length c1)).setCell ⟨gr, 2, none⟩ (.slice (some ⟨g2, 0, none⟩) o3.length c2)).setCell ⟨gr, 3, none⟩ (.int .i64 o4))) ?hg ?ho ?hn ?hr ?_; (case ho => rfl); (case hg => rfl); (case hn => rfl); (case hr => first | (go_simp; done) | (go_simp; rfl)); intro w8 hw; replace HB := Aside0.mk (below4 hw HB.out Ggr.out); replace Bgt := Aside0.mk (far4 hw Bgt.out Ngt_gr.out); replace Bgr := Aside0.mk (put4 hw Bgr.out); replace Bgo := Aside0.mk (far4 hw Bgo.out Ngo_gr.out); replace TT := Aside0.mk (tb4 hw TT.out M1gr.out M2gr.out); clear hw; clear hzgo_0 hfgo_0 hzgo_1 hfgo_1 hzgo_2 hfgo_2 hzgo_3 hfgo_3 hzgr_0 hfgr_0 hzgr_1 hfgr_1 hzgr_2 hfgr_2 hzgr_3 hfgr_3))
  refine bodyPost_ret (results_ctt rfl _ _ gr 25 #[.int .i64 o1, .slice (some ⟨g1, 0, none⟩) o2.length c1, .slice (some ⟨g2, 0, none⟩) o3.length c2, .int .i64 o4] (0, 0) _ rfl Bgr.out Try.underlying25 rfl (by kernel_rfl)) rfl ?_
  exact ⟨_, _, rfl, TT.out.back.1, TT.out.back.2, HB.out⟩
 ·have hF := Aside0.mk hf
  clear hf
  have I0 := Aside0.mk i0
  have I1 := Aside0.mk i1
  clear i0 i1
  simp only [show ¬ ((2 : Int) = 1) by decide, if_true, if_false, Option.some.injEq, Prod.mk.injEq] at h
  obtain ⟨rfl, rfl, rfl, rfl, rfl, rfl⟩ := h
  go_enter Try.func55, Try.ntmps55
  go_wp2_with (first | ((with_reducible refine gate_dst (N := 3) rfl ?_); refine box_event ?hg (N := 3) ?hd (cs := #[.int .i64 a0_0, .slice A0_1 l0_1.length c0_1, .slice A0_2 l0_2.length c0_2, .int .i64 a0_3]) (t := 25) ?hr ?_; (case hd => rfl); (case hg => rfl); (case hr => first | (go_simp; done) | (go_simp; rfl)); intro gt hg w1 hbox hb; have Ggt := Aside0.mk (show w.heap.size ≤ gt by rw [hg]; exact Nat.le_refl _); have HB := Aside0.mk hb; have Bgt := Aside0.mk hbox; clear hb hbox hg) | ((with_reducible refine gate_dst (N := 6) rfl ?_); refine box_event ?hg (N := 6) ?hd (cs := #[.int .i64 0, .slice none 0 0, .slice none 0 0, .int .i64 0]) (t := 25) ?hr ?_; (case hd => rfl); (case hg => rfl); (case hr => first | (go_simp; done) | (go_simp; rfl)); intro gr hg w2 hbox hb; have Ggr := Aside0.mk (show w.heap.size ≤ gr by rw [hg]; exact HB.out.size); have Ngt_gr := Aside0.mk (show gt ≠ gr by rw [hg]; exact Nat.ne_of_lt (blk_lt Bgt.out)); have Ngr_gt := Aside0.mk (show gr ≠ gt by rw [hg]; exact Nat.ne_of_gt (blk_lt Bgt.out)); replace HB := Aside0.mk (below_step HB.out hb); replace Bgt := Aside0.mk (blk_below Bgt.out hb); have Bgr := Aside0.mk hbox; clear hb hbox hg; obtain ⟨⟨hzgt_0, hzgt_1, hzgt_2, hzgt_3⟩, hfgt_0, hfgt_1, hfgt_2, hfgt_3⟩ := open4 Bgt.out) | (go_at_call 80; refine (impl_ownTable.calls a0_0 A0_1 c0_1 l0_1 A0_2 c0_2 l0_2 a0_3 o1 o2 o3 o4 _ (Kd.C_below hr.out.1 HB.out) hr.out.2.1 (Kd.C_below hr.out.2.2.1 HB.out) hr.out.2.2.2 hO.out).mono ?_; rintro e w3 ⟨v1, v2, rfl, y1, y2, hb⟩; have hs_ := HB.out.size; replace y1 := Kd.R_lower y1 hs_; replace y2 := Kd.R_lower y2 hs_; clear hs_; obtain ⟨g1, g2, c1, c2, rfl, rfl, hT⟩ := Tb.of y1 y2 P1.out P2.out; have TT := Aside0.mk hT; have M1gt := Aside0.mk (show g1 ≠ gt from fun e_ => Kd.R_ne y1 (blk_below Bgt.out hb) (by decide) (by rw [← e_]; rfl)); have M2gt := Aside0.mk (show g2 ≠ gt from fun e_ => Kd.R_ne y2 (blk_below Bgt.out hb) (by decide) (by rw [← e_]; rfl)); have M1gr := Aside0.mk (show g1 ≠ gr from fun e_ => Kd.R_ne y1 (blk_below Bgr.out hb) (by decide) (by rw [← e_]; rfl)); have M2gr := Aside0.mk (show g2 ≠ gr from fun e_ => Kd.R_ne y2 (blk_below Bgr.out hb) (by decide) (by rw [← e_]; rfl)); clear y1 y2 hT; replace HB := Aside0.mk (below_step HB.out hb); replace Bgt := Aside0.mk (blk_below Bgt.out hb); replace Bgr := Aside0.mk (blk_below Bgr.out hb); clear hb; clear hzgt_0 hfgt_0 hzgt_1 hfgt_1 hzgt_2 hfgt_2 hzgt_3 hfgt_3) | ((with_reducible refine gate_dst (N := 9) rfl ?_); refine box_event ?hg (N := 9) ?hd (cs := #[.int .i64 0, .slice none 0 0, .slice none 0 0, .int .i64 0]) (t := 25) ?hr ?_; (case hd => rfl); (case hg => rfl); (case hr => first | (go_simp; done) | (go_simp; rfl)); intro go hg w4 hbox hb; have Ggo := Aside0.mk (show w.heap.size ≤ go by rw [hg]; exact HB.out.size); have Ngt_go := Aside0.mk (show gt ≠ go by rw [hg]; exact Nat.ne_of_lt (blk_lt Bgt.out)); have Ngo_gt := Aside0.mk (show go ≠ gt by rw [hg]; exact Nat.ne_of_gt (blk_lt Bgt.out)); have Ngr_go := Aside0.mk (show gr ≠ go by rw [hg]; exact Nat.ne_of_lt (blk_lt Bgr.out)); have Ngo_gr := Aside0.mk (show go ≠ gr by rw [hg]; exact Nat.ne_of_gt (blk_lt Bgr.out)); have M1go := Aside0.mk (show g1 ≠ go by rw [hg]; exact Nat.ne_of_lt TT.out.2.2.2.2.2.1); have M2go := Aside0.mk (show g2 ≠ go by rw [hg]; exact Nat.ne_of_lt TT.out.2.2.2.2.2.2); replace HB := Aside0.mk (below_step HB.out hb); replace Bgt := Aside0.mk (blk_below Bgt.out hb); replace Bgr := Aside0.mk (blk_below Bgr.out hb); replace TT := Aside0.mk (TT.out.below hb); have Bgo := Aside0.mk hbox; clear hb hbox hg; obtain ⟨⟨hzgo_0, hzgo_1, hzgo_2, hzgo_3⟩, hfgo_0, hfgo_1, hfgo_2, hfgo_3⟩ := open4 Bgo.out) | ((with_reducible refine gate_store (t := 25) (p := 9) rfl ?_); refine store_event (t := 25) (p := 9) (v := ?vo_w5) (w1 := ((((w4.setCell ⟨go, 0, none⟩ (.int .i64 o1)).setCell ⟨go, 1, none⟩ (.slice (some ⟨g1, 0, none⟩) o2.length c1)).setCell ⟨go, 2, none⟩ (.slice (some ⟨g2, 0, none⟩) o3.length c2)).setCell ⟨go, 3, none⟩ (.int .i64 o4))) ?hg ?ho ?hn ?hr ?_; (case ho => rfl); (case hg => rfl); (case hn => rfl); (case hr => first | (go_simp; done) | (go_simp; rfl)); intro w5 hw; replace HB := Aside0.mk (below4 hw HB.out Ggo.out); replace Bgt := Aside0.mk (far4 hw Bgt.out Ngt_go.out); replace Bgr := Aside0.mk (far4 hw Bgr.out Ngr_go.out); replace Bgo := Aside0.mk (put4 hw Bgo.out); replace TT := Aside0.mk (tb4 hw TT.out M1go.out M2go.out); clear hw; clear hzgo_0 hfgo_0 hzgo_1 hfgo_1 hzgo_2 hfgo_2 hzgo_3 hfgo_3) | (go_at_call 66; refine (impl_Table_find.calls go g1 g2 c1 c2 o1 o4 o2 o3 a1 2 i _ Bgo.out (Kd.R_reads' TT.out.1).2.2 (Kd.R_reads' TT.out.2.1).2.2 hF.out).mono ?_; rintro e w6 ⟨he, hb⟩; replace he := he.trans (show _ = Ending.returned (.pointer (some ⟨g2, i.toNat * 3, none⟩)) from rfl); subst he; replace HB := Aside0.mk (below_step HB.out hb); replace Bgt := Aside0.mk (blk_below Bgt.out hb); replace Bgr := Aside0.mk (blk_below Bgr.out hb); replace Bgo := Aside0.mk (blk_below Bgo.out hb); replace TT := Aside0.mk (TT.out.below hb); clear hb; obtain ⟨⟨hx0, hx1, hx2⟩, hy0, hy1, hy2⟩ := row_open TT.out.2.1 i I0.out I1.out) | ((with_reducible refine gate_store (t := 3) (p := 25) rfl ?_); refine store_event (t := 3) (p := 25) (v := ?vo_w7) (w1 := (w6.setCell ⟨g2, i.toNat * 3 + 2, none⟩ (.int .i64 a2))) ?hg ?ho ?hn ?hr ?_; (case ho => rfl); (case hg => rfl); (case hn => rfl); (case hr => first | (go_simp; done) | (go_simp; rfl)); intro w7 hw; replace HB := Aside0.mk (show Below w.heap.size w w7 from by rw [hw]; exact below_set HB.out TT.out.2.2.2.2.1); replace Bgt := Aside0.mk (far1 hw Bgt.out M2gt.out.symm); replace Bgr := Aside0.mk (far1 hw Bgr.out M2gr.out.symm); replace Bgo := Aside0.mk (far1 hw Bgo.out M2go.out.symm); replace TT := Aside0.mk (show Tb w.heap.size w7 g1 g2 c1 c2 o2.length o3.length o2 (o3.set i.toNat ⟨(rd_T79 o3 i).f0, (rd_T79 o3 i).f1, a2⟩) from by rw [hw]; exact TT.out.val2 i I0.out I1.out a2); clear hw; obtain ⟨⟨hzgr_0, hzgr_1, hzgr_2, hzgr_3⟩, hfgr_0, hfgr_1, hfgr_2, hfgr_3⟩ := open4 Bgr.out; obtain ⟨⟨hzgo_0, hzgo_1, hzgo_2, hzgo_3⟩, hfgo_0, hfgo_1, hfgo_2, hfgo_3⟩ := open4 Bgo.out; (try clear hx0 hx1 hx2 hy0 hy1 hy2)) | ((with_reducible refine gate_store (t := 25) (p := 6) rfl ?_); refine store_event (t := 25) (p := 6) (v := ?vo_w8) (w1 := ((((w7.setCell ⟨gr, 0, none⟩ (.int .i64 o1)).setCell ⟨gr, 1, none⟩ (.slice (some ⟨g1, 0, none⟩) o2.length c1)).setCell ⟨gr, 2, none⟩ (.slice (some ⟨g2, 0, none⟩) o3.length c2)).setCell ⟨gr, 3, none⟩ (.int .i64 o4))) ?hg ?ho ?hn ?hr ?_; (case ho => rfl); (case hg => rfl); (case hn => rfl); (case hr => first | (go_simp; done) | (go_simp; rfl)); intro w8 hw; replace HB := Aside0.mk (below4 hw HB.out Ggr.out); replace Bgt := Aside0.mk (far4 hw Bgt.out Ngt_gr.out); replace Bgr := Aside0.mk (put4 hw Bgr.out); replace Bgo := Aside0.mk (far4 hw Bgo.out Ngo_gr.out); replace TT := Aside0.mk (tb4 hw TT.out M1gr.out M2gr.out); clear hw; clear hzgo_0 hfgo_0 hzgo_1 hfgo_1 hzgo_2 hfgo_2 hzgo_3 hfgo_3 hzgr_0 hfgr_0 hzgr_1 hfgr_1 hzgr_2 hfgr_2 hzgr_3 hfgr_3))
  refine bodyPost_ret (results_ctt rfl _ _ gr 25 #[.int .i64 o1, .slice (some ⟨g1, 0, none⟩) o2.length c1, .slice (some ⟨g2, 0, none⟩) o3.length c2, .int .i64 o4] (0, 0) _ rfl Bgr.out Try.underlying25 rfl (by kernel_rfl)) rfl ?_
  exact ⟨_, _, rfl, TT.out.back.1, TT.out.back.2, HB.out⟩
 ·have hF := Aside0.mk hf
  clear hf
  simp only [show ¬ ((0 : Int) = 1) by decide, show ¬ ((0 : Int) = 2) by decide, if_false] at h
  have H := Aside0.mk h
  clear h
  go_enter Try.func55, Try.ntmps55
  go_wp2_with (first | ((with_reducible refine gate_dst (N := 3) rfl ?_); refine box_event ?hg (N := 3) ?hd (cs := #[.int .i64 a0_0, .slice A0_1 l0_1.length c0_1, .slice A0_2 l0_2.length c0_2, .int .i64 a0_3]) (t := 25) ?hr ?_; (case hd => rfl); (case hg => rfl); (case hr => first | (go_simp; done) | (go_simp; rfl)); intro gt hg w1 hbox hb; have Ggt := Aside0.mk (show w.heap.size ≤ gt by rw [hg]; exact Nat.le_refl _); have HB := Aside0.mk hb; have Bgt := Aside0.mk hbox; clear hb hbox hg) | ((with_reducible refine gate_dst (N := 6) rfl ?_); refine box_event ?hg (N := 6) ?hd (cs := #[.int .i64 0, .slice none 0 0, .slice none 0 0, .int .i64 0]) (t := 25) ?hr ?_; (case hd => rfl); (case hg => rfl); (case hr => first | (go_simp; done) | (go_simp; rfl)); intro gr hg w2 hbox hb; have Ggr := Aside0.mk (show w.heap.size ≤ gr by rw [hg]; exact HB.out.size); have Ngt_gr := Aside0.mk (show gt ≠ gr by rw [hg]; exact Nat.ne_of_lt (blk_lt Bgt.out)); have Ngr_gt := Aside0.mk (show gr ≠ gt by rw [hg]; exact Nat.ne_of_gt (blk_lt Bgt.out)); replace HB := Aside0.mk (below_step HB.out hb); replace Bgt := Aside0.mk (blk_below Bgt.out hb); have Bgr := Aside0.mk hbox; clear hb hbox hg; obtain ⟨⟨hzgt_0, hzgt_1, hzgt_2, hzgt_3⟩, hfgt_0, hfgt_1, hfgt_2, hfgt_3⟩ := open4 Bgt.out) | (go_at_call 80; refine (impl_ownTable.calls a0_0 A0_1 c0_1 l0_1 A0_2 c0_2 l0_2 a0_3 o1 o2 o3 o4 _ (Kd.C_below hr.out.1 HB.out) hr.out.2.1 (Kd.C_below hr.out.2.2.1 HB.out) hr.out.2.2.2 hO.out).mono ?_; rintro e w3 ⟨v1, v2, rfl, y1, y2, hb⟩; have hs_ := HB.out.size; replace y1 := Kd.R_lower y1 hs_; replace y2 := Kd.R_lower y2 hs_; clear hs_; obtain ⟨g1, g2, c1, c2, rfl, rfl, hT⟩ := Tb.of y1 y2 P1.out P2.out; have TT := Aside0.mk hT; have M1gt := Aside0.mk (show g1 ≠ gt from fun e_ => Kd.R_ne y1 (blk_below Bgt.out hb) (by decide) (by rw [← e_]; rfl)); have M2gt := Aside0.mk (show g2 ≠ gt from fun e_ => Kd.R_ne y2 (blk_below Bgt.out hb) (by decide) (by rw [← e_]; rfl)); have M1gr := Aside0.mk (show g1 ≠ gr from fun e_ => Kd.R_ne y1 (blk_below Bgr.out hb) (by decide) (by rw [← e_]; rfl)); have M2gr := Aside0.mk (show g2 ≠ gr from fun e_ => Kd.R_ne y2 (blk_below Bgr.out hb) (by decide) (by rw [← e_]; rfl)); clear y1 y2 hT; replace HB := Aside0.mk (below_step HB.out hb); replace Bgt := Aside0.mk (blk_below Bgt.out hb); replace Bgr := Aside0.mk (blk_below Bgr.out hb); clear hb; clear hzgt_0 hfgt_0 hzgt_1 hfgt_1 hzgt_2 hfgt_2 hzgt_3 hfgt_3) | ((with_reducible refine gate_dst (N := 9) rfl ?_); refine box_event ?hg (N := 9) ?hd (cs := #[.int .i64 0, .slice none 0 0, .slice none 0 0, .int .i64 0]) (t := 25) ?hr ?_; (case hd => rfl); (case hg => rfl); (case hr => first | (go_simp; done) | (go_simp; rfl)); intro go hg w4 hbox hb; have Ggo := Aside0.mk (show w.heap.size ≤ go by rw [hg]; exact HB.out.size); have Ngt_go := Aside0.mk (show gt ≠ go by rw [hg]; exact Nat.ne_of_lt (blk_lt Bgt.out)); have Ngo_gt := Aside0.mk (show go ≠ gt by rw [hg]; exact Nat.ne_of_gt (blk_lt Bgt.out)); have Ngr_go := Aside0.mk (show gr ≠ go by rw [hg]; exact Nat.ne_of_lt (blk_lt Bgr.out)); have Ngo_gr := Aside0.mk (show go ≠ gr by rw [hg]; exact Nat.ne_of_gt (blk_lt Bgr.out)); have M1go := Aside0.mk (show g1 ≠ go by rw [hg]; exact Nat.ne_of_lt TT.out.2.2.2.2.2.1); have M2go := Aside0.mk (show g2 ≠ go by rw [hg]; exact Nat.ne_of_lt TT.out.2.2.2.2.2.2); replace HB := Aside0.mk (below_step HB.out hb); replace Bgt := Aside0.mk (blk_below Bgt.out hb); replace Bgr := Aside0.mk (blk_below Bgr.out hb); replace TT := Aside0.mk (TT.out.below hb); have Bgo := Aside0.mk hbox; clear hb hbox hg; obtain ⟨⟨hzgo_0, hzgo_1, hzgo_2, hzgo_3⟩, hfgo_0, hfgo_1, hfgo_2, hfgo_3⟩ := open4 Bgo.out) | ((with_reducible refine gate_store (t := 25) (p := 9) rfl ?_); refine store_event (t := 25) (p := 9) (v := ?vo_w5) (w1 := ((((w4.setCell ⟨go, 0, none⟩ (.int .i64 o1)).setCell ⟨go, 1, none⟩ (.slice (some ⟨g1, 0, none⟩) o2.length c1)).setCell ⟨go, 2, none⟩ (.slice (some ⟨g2, 0, none⟩) o3.length c2)).setCell ⟨go, 3, none⟩ (.int .i64 o4))) ?hg ?ho ?hn ?hr ?_; (case ho => rfl); (case hg => rfl); (case hn => rfl); (case hr => first | (go_simp; done) | (go_simp; rfl)); intro w5 hw; replace HB := Aside0.mk (below4 hw HB.out Ggo.out); replace Bgt := Aside0.mk (far4 hw Bgt.out Ngt_go.out); replace Bgr := Aside0.mk (far4 hw Bgr.out Ngr_go.out); replace Bgo := Aside0.mk (put4 hw Bgo.out); replace TT := Aside0.mk (tb4 hw TT.out M1go.out M2go.out); clear hw; clear hzgo_0 hfgo_0 hzgo_1 hfgo_1 hzgo_2 hfgo_2 hzgo_3 hfgo_3) | (go_at_call 66; refine (impl_Table_find.calls go g1 g2 c1 c2 o1 o4 o2 o3 a1 0 0 _ Bgo.out (Kd.R_reads' TT.out.1).2.2 (Kd.R_reads' TT.out.2.1).2.2 hF.out).mono ?_; rintro e w6 ⟨he, hb⟩; replace he := he.trans (show _ = Ending.returned (.pointer none) from rfl); subst he; replace HB := Aside0.mk (below_step HB.out hb); replace Bgt := Aside0.mk (blk_below Bgt.out hb); replace Bgr := Aside0.mk (blk_below Bgr.out hb); replace Bgo := Aside0.mk (blk_below Bgo.out hb); replace TT := Aside0.mk (TT.out.below hb); clear hb) | ((with_reducible refine gate_dst (N := 11) rfl ?_); refine box_event ?hg (N := 11) ?hd (cs := #[.bool false, .int .i64 0, .int .i64 0]) (t := 79) ?hr ?_; (case hd => rfl); (case hg => rfl); (case hr => first | (go_simp; done) | (go_simp; rfl)); intro gc hg w7 hbox hb; have Ggc := Aside0.mk (show w.heap.size ≤ gc by rw [hg]; exact HB.out.size); have Ngt_gc := Aside0.mk (show gt ≠ gc by rw [hg]; exact Nat.ne_of_lt (blk_lt Bgt.out)); have Ngc_gt := Aside0.mk (show gc ≠ gt by rw [hg]; exact Nat.ne_of_gt (blk_lt Bgt.out)); have Ngr_gc := Aside0.mk (show gr ≠ gc by rw [hg]; exact Nat.ne_of_lt (blk_lt Bgr.out)); have Ngc_gr := Aside0.mk (show gc ≠ gr by rw [hg]; exact Nat.ne_of_gt (blk_lt Bgr.out)); have Ngo_gc := Aside0.mk (show go ≠ gc by rw [hg]; exact Nat.ne_of_lt (blk_lt Bgo.out)); have Ngc_go := Aside0.mk (show gc ≠ go by rw [hg]; exact Nat.ne_of_gt (blk_lt Bgo.out)); have M1gc := Aside0.mk (show g1 ≠ gc by rw [hg]; exact Nat.ne_of_lt TT.out.2.2.2.2.2.1); have M2gc := Aside0.mk (show g2 ≠ gc by rw [hg]; exact Nat.ne_of_lt TT.out.2.2.2.2.2.2); replace HB := Aside0.mk (below_step HB.out hb); replace Bgt := Aside0.mk (blk_below Bgt.out hb); replace Bgr := Aside0.mk (blk_below Bgr.out hb); replace Bgo := Aside0.mk (blk_below Bgo.out hb); replace TT := Aside0.mk (TT.out.below hb); have Bgc := Aside0.mk hbox; clear hb hbox hg; obtain ⟨⟨hzgc_0, hzgc_1, hzgc_2⟩, hfgc_0, hfgc_1, hfgc_2⟩ := open3 Bgc.out))
  go_loopg [12] k (fun kq v12 w' => ∃ (x : Int) (cb : Bool) (ck cv : Int) (l1 l2 : List S79), v12 = .int .i64 x ∧ Aside0 (impl_put.l0 kq x a0_0 l1 l2 cb ck cv o1 o4 = some (r1, r2, r3, r4, r5, r6)) ∧ Aside0 (kq ≤ k) ∧ Aside0 (Below w.heap.size w w') ∧ Aside0 (Tb w.heap.size w' g1 g2 c1 c2 o2.length o3.length l1 l2) ∧ Aside0 (w'.heap[gt]? = some (.cells #[.int .i64 a0_0, .slice A0_1 l0_1.length c0_1, .slice A0_2 l0_2.length c0_2, .int .i64 a0_3] 25 (0, 0))) ∧ Aside0 (w'.heap[gr]? = some (.cells #[.int .i64 0, .slice none 0 0, .slice none 0 0, .int .i64 0] 25 (0, 0))) ∧ Aside0 (w'.heap[go]? = some (.cells #[.int .i64 o1, .slice (some ⟨g1, 0, none⟩) o2.length c1, .slice (some ⟨g2, 0, none⟩) o3.length c2, .int .i64 o4] 25 (0, 0))) ∧ Aside0 (w'.heap[gc]? = some (.cells #[.bool cb, .int .i64 ck, .int .i64 cv] 79 (0, 0))))
  case atStart => exact ⟨0, true, a1, a2, o2, o3, rfl, H, ⟨Nat.le_refl _⟩, ⟨below_set (below_set (below_set (HB.out) Ggc.out) Ggc.out) Ggc.out⟩, ⟨Tb.far (Tb.far (Tb.far (TT.out) ⟨gc, 0, none⟩ (.bool true) M1gc.out M2gc.out) ⟨gc, 1, none⟩ (.int .i64 a1) M1gc.out M2gc.out) ⟨gc, 2, none⟩ (.int .i64 a2) M1gc.out M2gc.out⟩, ⟨blk_far (blk_far (blk_far (Bgt.out) (p := ⟨gc, 0, none⟩) Ngt_gc.out _) (p := ⟨gc, 1, none⟩) Ngt_gc.out _) (p := ⟨gc, 2, none⟩) Ngt_gc.out _⟩, ⟨blk_far (blk_far (blk_far (Bgr.out) (p := ⟨gc, 0, none⟩) Ngr_gc.out _) (p := ⟨gc, 1, none⟩) Ngr_gc.out _) (p := ⟨gc, 2, none⟩) Ngr_gc.out _⟩, ⟨blk_far (blk_far (blk_far (Bgo.out) (p := ⟨gc, 0, none⟩) Ngo_gc.out _) (p := ⟨gc, 1, none⟩) Ngo_gc.out _) (p := ⟨gc, 2, none⟩) Ngo_gc.out _⟩, ⟨blk_put (cs := #[.bool true, .int .i64 a1, .int .i64 0]) (cs' := #[.bool true, .int .i64 a1, .int .i64 a2]) (blk_put (cs := #[.bool true, .int .i64 0, .int .i64 0]) (cs' := #[.bool true, .int .i64 a1, .int .i64 0]) (blk_put (cs := #[.bool false, .int .i64 0, .int .i64 0]) (cs' := #[.bool true, .int .i64 0, .int .i64 0]) (Bgc.out) 0 (.bool true) rfl) 1 (.int .i64 a1) rfl) 2 (.int .i64 a2) rfl⟩⟩
  case round =>
   clear H HB TT Bgt Bgr Bgo Bgc
   (try clear hF hO hr)
   obtain ⟨x, cb, ck, cv, l1, l2, rfl, HA, HK1, HB, TT, Bgt, Bgr, Bgo, Bgc⟩ := hrel
   cases gk with
   | zero => exact absurd HA.out (by simp [impl_put.l0])
   | succ k1 =>
    have H := HA.out
    clear HA
    simp only [impl_put.l0] at H
    by_cases hx : x ≤ 24
    ·rw [if_pos hx] at H
     have hxb : decide (x ≤ 24) = true := decide_eq_true hx
     obtain ⟨⟨p, q⟩, hp, H⟩ := Option.bind_eq_some_iff.mp H
     have hP := Aside0.mk hp
     clear hp
     by_cases hin : (0 ≤ p ∧ p < (l1.length : Int)) ∧ 0 ≤ q ∧ q < (l2.length : Int)
     ·simp only [if_pos hin] at H
      obtain ⟨⟨p0, p1⟩, q0, q1⟩ := hin
      have n1 := (Kd.R_reads' TT.out.1).1
      have n2 := (Kd.R_reads' TT.out.2.1).1
      rw [← n1] at p1
      rw [← n2] at q1
      clear n1 n2
      have zt0 : wr.cell? ⟨gt, 0, none⟩ = some (.int .i64 a0_0) := (blk_cell Bgt.out 0).trans rfl
      have zg1 : wr.cell? ⟨go, 1, none⟩ = some (.slice (some ⟨g1, 0, none⟩) o2.length c1) := (blk_cell Bgo.out 1).trans rfl
      have zg2 : wr.cell? ⟨go, 2, none⟩ = some (.slice (some ⟨g2, 0, none⟩) o3.length c2) := (blk_cell Bgo.out 2).trans rfl
      have zc0 : wr.cell? ⟨gc, 0, none⟩ = some (.bool cb) := (blk_cell Bgc.out 0).trans rfl
      have zc1 : wr.cell? ⟨gc, 1, none⟩ = some (.int .i64 ck) := (blk_cell Bgc.out 1).trans rfl
      have zc2 : wr.cell? ⟨gc, 2, none⟩ = some (.int .i64 cv) := (blk_cell Bgc.out 2).trans rfl
      have yc0 := blk_frozen Bgc.out 0
      have yc1 := blk_frozen Bgc.out 1
      have yc2 := blk_frozen Bgc.out 2
      by_cases hm : Int.tmod x 2 = 1
      ·rw [if_pos hm] at H
       have hmb : (Int.tmod x 2 == 1) = true := beq_iff_eq.mpr hm
       obtain ⟨⟨hx0, hx1, hx2⟩, hy0, hy1, hy2⟩ := row_open TT.out.2.1 q q0 q1
       generalize (rd_T79 l2 q).f0 = fb at H hx0
       generalize (rd_T79 l2 q).f1 = fk at H hx1
       generalize (rd_T79 l2 q).f2 = fv at H hx2
       have HH := Aside0.mk H
       clear H
       go_wp2_with (first | (go_at_call 71; (refine (impl_placesOf.calls a0_0 ck p q _ hP.out).mono ?_); rintro e w1 ⟨rfl, ⟨nd, rfl⟩⟩))
       have v0 : (wr.drewN nd).cell? ⟨g2, q.toNat * 3, none⟩ = some (.bool fb) := hx0
       have v1 : (wr.drewN nd).cell? ⟨g2, q.toNat * 3 + 1, none⟩ = some (.int .i64 fk) := hx1
       have v2 : (wr.drewN nd).cell? ⟨g2, q.toNat * 3 + 2, none⟩ = some (.int .i64 fv) := hx2
       have v3 : (wr.drewN nd).cell? ⟨gc, 0, none⟩ = some (.bool cb) := zc0
       have v4 : (wr.drewN nd).cell? ⟨gc, 1, none⟩ = some (.int .i64 ck) := zc1
       have v5 : (wr.drewN nd).cell? ⟨gc, 2, none⟩ = some (.int .i64 cv) := zc2
       have mm1 := M2gc.out
       have mm2 := M2gc.out.symm
       go_region
       obtain ⟨w9, hw9⟩ : ∃ w9 : World, w9 = set3 ((((wr.drewN (nd + 1)).setCell ⟨gc, 0, none⟩ (.bool fb)).setCell ⟨gc, 1, none⟩ (.int .i64 fk)).setCell ⟨gc, 2, none⟩ (.int .i64 fv)) g2 (q.toNat * 3) (⟨cb, ck, cv⟩ : S79) := ⟨_, rfl⟩
       have DB := pw_below_drewN (Below.refl wr.heap.size wr) (nd + 1)
       have HB9 := Aside0.mk (show Below w.heap.size w w9 from by rw [hw9]; exact below_set3 (below_set (below_set (below_set (below_step HB.out DB) Ggc.out) Ggc.out) Ggc.out) TT.out.2.2.2.2.1)
       have TT9 := Aside0.mk (show Tb w.heap.size w9 g1 g2 c1 c2 o2.length o3.length l1 (l2.set q.toNat ⟨cb, ck, cv⟩) from by rw [hw9]; exact (Tb.far (Tb.far (Tb.far (TT.out.below DB) ⟨gc, 0, none⟩ (.bool fb) M1gc.out M2gc.out) ⟨gc, 1, none⟩ (.int .i64 fk) M1gc.out M2gc.out) ⟨gc, 2, none⟩ (.int .i64 fv) M1gc.out M2gc.out).put2 q q0 q1 (⟨cb, ck, cv⟩ : S79))
       have B9gt := Aside0.mk (far3 hw9 (blk_far (blk_far (blk_far (blk_below Bgt.out DB) (p := ⟨gc, 0, none⟩) Ngt_gc.out _) (p := ⟨gc, 1, none⟩) Ngt_gc.out _) (p := ⟨gc, 2, none⟩) Ngt_gc.out _) M2gt.out.symm)
       have B9gr := Aside0.mk (far3 hw9 (blk_far (blk_far (blk_far (blk_below Bgr.out DB) (p := ⟨gc, 0, none⟩) Ngr_gc.out _) (p := ⟨gc, 1, none⟩) Ngr_gc.out _) (p := ⟨gc, 2, none⟩) Ngr_gc.out _) M2gr.out.symm)
       have B9go := Aside0.mk (far3 hw9 (blk_far (blk_far (blk_far (blk_below Bgo.out DB) (p := ⟨gc, 0, none⟩) Ngo_gc.out _) (p := ⟨gc, 1, none⟩) Ngo_gc.out _) (p := ⟨gc, 2, none⟩) Ngo_gc.out _) M2go.out.symm)
       have B9gc := Aside0.mk (show w9.heap[gc]? = some (.cells #[.bool fb, .int .i64 fk, .int .i64 fv] 79 (0, 0)) from by rw [hw9]; exact blk_set3 (blk_put (cs := #[.bool fb, .int .i64 fk, .int .i64 cv]) (cs' := #[.bool fb, .int .i64 fk, .int .i64 fv]) (blk_put (cs := #[.bool fb, .int .i64 ck, .int .i64 cv]) (cs' := #[.bool fb, .int .i64 fk, .int .i64 cv]) (blk_put (cs := #[.bool cb, .int .i64 ck, .int .i64 cv]) (cs' := #[.bool fb, .int .i64 ck, .int .i64 cv]) (blk_below Bgc.out DB) 0 (.bool fb) rfl) 1 (.int .i64 fk) rfl) 2 (.int .i64 fv) rfl) M2gc.out.symm _)
       show Exit.then _ _ Exit.normal _ (set3 ((((wr.drewN (nd + 1)).setCell ⟨gc, 0, none⟩ (.bool fb)).setCell ⟨gc, 1, none⟩ (.int .i64 fk)).setCell ⟨gc, 2, none⟩ (.int .i64 fv)) g2 (q.toNat * 3) (⟨cb, ck, cv⟩ : S79))
       rw [← hw9]
       clear hw9 DB HB TT Bgt Bgr Bgo Bgc hx0 hx1 hx2 hy0 hy1 hy2 zt0 zg1 zg2 zc0 zc1 zc2 yc0 yc1 yc2 v0 v1 v2 v3 v4 v5 mm1 mm2
       have HB := HB9
       have TT := TT9
       have Bgt := B9gt
       have Bgr := B9gr
       have Bgo := B9go
       have Bgc := B9gc
       clear HB9 TT9 B9gt B9gr B9go B9gc
       have zc0 : w9.cell? ⟨gc, 0, none⟩ = some (.bool fb) := (blk_cell Bgc.out 0).trans rfl
       cases fb with
       | true =>
        have H := HH.out
        simp only [if_true] at H
        have H' := Aside0.mk H
        clear H HH
        go_wp2
        go_roundg k1
        case measure => have := HK1.out; omega
        case rel => exact ⟨_, _, _, _, _, _, rfl, H', ⟨by have := HK1.out; omega⟩, HB, TT, Bgt, Bgr, Bgo, Bgc⟩
       | false =>
        have H := HH.out
        simp only [Bool.false_eq_true, if_false, Option.some.injEq, Prod.mk.injEq] at H
        obtain ⟨rfl, rfl, rfl, rfl, rfl, rfl⟩ := H
        clear HH
        obtain ⟨⟨hzgo_0, hzgo_1, hzgo_2, hzgo_3⟩, hfgo_0, hfgo_1, hfgo_2, hfgo_3⟩ := open4 Bgo.out
        go_wp2_with (first | ((with_reducible refine gate_store (t := 3) (p := 65) rfl ?_); refine store_event (t := 3) (p := 65) (v := ?vo_w21) (w1 := (w9.setCell ⟨go, 3, none⟩ (.int .i64 (wrap64 (o4 + 1))))) ?hg ?ho ?hn ?hr ?_; (case ho => rfl); (case hg => rfl); (case hn => rfl); (case hr => first | (go_simp; done) | (go_simp; rfl)); intro w21 hw; replace HB := Aside0.mk (below1 hw HB.out Ggo.out); replace Bgt := Aside0.mk (far1 hw Bgt.out Ngt_go.out); replace Bgr := Aside0.mk (far1 hw Bgr.out Ngr_go.out); replace Bgo := Aside0.mk (show w21.heap[go]? = some (.cells #[.int .i64 o1, .slice (some ⟨g1, 0, none⟩) o2.length c1, .slice (some ⟨g2, 0, none⟩) o3.length c2, .int .i64 (wrap64 (o4 + 1))] 25 (0, 0)) from by rw [hw]; exact blk_put (cs := #[.int .i64 o1, .slice (some ⟨g1, 0, none⟩) o2.length c1, .slice (some ⟨g2, 0, none⟩) o3.length c2, .int .i64 o4]) Bgo.out 3 _ rfl); replace Bgc := Aside0.mk (far1 hw Bgc.out Ngc_go.out); replace TT := Aside0.mk (tb1 hw TT.out M1go.out M2go.out); clear hw; clear hzgo_0 hfgo_0 hzgo_1 hfgo_1 hzgo_2 hfgo_2 hzgo_3 hfgo_3; obtain ⟨⟨hzgr_0, hzgr_1, hzgr_2, hzgr_3⟩, hfgr_0, hfgr_1, hfgr_2, hfgr_3⟩ := open4 Bgr.out; obtain ⟨⟨hzgo_0, hzgo_1, hzgo_2, hzgo_3⟩, hfgo_0, hfgo_1, hfgo_2, hfgo_3⟩ := open4 Bgo.out) | ((with_reducible refine gate_store (t := 25) (p := 6) rfl ?_); refine store_event (t := 25) (p := 6) (v := ?vo_w22) (w1 := ((((w21.setCell ⟨gr, 0, none⟩ (.int .i64 o1)).setCell ⟨gr, 1, none⟩ (.slice (some ⟨g1, 0, none⟩) o2.length c1)).setCell ⟨gr, 2, none⟩ (.slice (some ⟨g2, 0, none⟩) o3.length c2)).setCell ⟨gr, 3, none⟩ (.int .i64 (wrap64 (o4 + 1))))) ?hg ?ho ?hn ?hr ?_; (case ho => rfl); (case hg => rfl); (case hn => rfl); (case hr => first | (go_simp; done) | (go_simp; rfl)); intro w22 hw; replace HB := Aside0.mk (below4 hw HB.out Ggr.out); replace Bgt := Aside0.mk (far4 hw Bgt.out Ngt_gr.out); replace Bgr := Aside0.mk (put4 hw Bgr.out); replace Bgo := Aside0.mk (far4 hw Bgo.out Ngo_gr.out); replace Bgc := Aside0.mk (far4 hw Bgc.out Ngc_gr.out); replace TT := Aside0.mk (tb4 hw TT.out M1gr.out M2gr.out); clear hw; clear hzgo_0 hfgo_0 hzgo_1 hfgo_1 hzgo_2 hfgo_2 hzgo_3 hfgo_3 hzgr_0 hfgr_0 hzgr_1 hfgr_1 hzgr_2 hfgr_2 hzgr_3 hfgr_3))
        refine bodyPost_ret (results_ctt rfl _ _ gr 25 #[.int .i64 o1, .slice (some ⟨g1, 0, none⟩) o2.length c1, .slice (some ⟨g2, 0, none⟩) o3.length c2, .int .i64 (wrap64 (o4 + 1))] (0, 0) _ rfl Bgr.out Try.underlying25 rfl (by kernel_rfl)) rfl ?_
        exact ⟨_, _, rfl, TT.out.back.1, TT.out.back.2, HB.out⟩
      ·rw [if_neg hm] at H
       have hmb : (Int.tmod x 2 == 1) = false := by simpa using hm
       obtain ⟨⟨hx0, hx1, hx2⟩, hy0, hy1, hy2⟩ := row_open TT.out.1 p p0 p1
       generalize (rd_T79 l1 p).f0 = fb at H hx0
       generalize (rd_T79 l1 p).f1 = fk at H hx1
       generalize (rd_T79 l1 p).f2 = fv at H hx2
       have HH := Aside0.mk H
       clear H
       go_wp2_with (first | (go_at_call 71; (refine (impl_placesOf.calls a0_0 ck p q _ hP.out).mono ?_); rintro e w1 ⟨rfl, ⟨nd, rfl⟩⟩))
       have v0 : (wr.drewN nd).cell? ⟨g1, p.toNat * 3, none⟩ = some (.bool fb) := hx0
       have v1 : (wr.drewN nd).cell? ⟨g1, p.toNat * 3 + 1, none⟩ = some (.int .i64 fk) := hx1
       have v2 : (wr.drewN nd).cell? ⟨g1, p.toNat * 3 + 2, none⟩ = some (.int .i64 fv) := hx2
       have v3 : (wr.drewN nd).cell? ⟨gc, 0, none⟩ = some (.bool cb) := zc0
       have v4 : (wr.drewN nd).cell? ⟨gc, 1, none⟩ = some (.int .i64 ck) := zc1
       have v5 : (wr.drewN nd).cell? ⟨gc, 2, none⟩ = some (.int .i64 cv) := zc2
       have mm1 := M1gc.out
       have mm2 := M1gc.out.symm
       go_region
       obtain ⟨w9, hw9⟩ : ∃ w9 : World, w9 = set3 ((((wr.drewN (nd + 1)).setCell ⟨gc, 0, none⟩ (.bool fb)).setCell ⟨gc, 1, none⟩ (.int .i64 fk)).setCell ⟨gc, 2, none⟩ (.int .i64 fv)) g1 (p.toNat * 3) (⟨cb, ck, cv⟩ : S79) := ⟨_, rfl⟩
       have DB := pw_below_drewN (Below.refl wr.heap.size wr) (nd + 1)
       have HB9 := Aside0.mk (show Below w.heap.size w w9 from by rw [hw9]; exact below_set3 (below_set (below_set (below_set (below_step HB.out DB) Ggc.out) Ggc.out) Ggc.out) TT.out.2.2.2.1)
       have TT9 := Aside0.mk (show Tb w.heap.size w9 g1 g2 c1 c2 o2.length o3.length (l1.set p.toNat ⟨cb, ck, cv⟩) l2 from by rw [hw9]; exact (Tb.far (Tb.far (Tb.far (TT.out.below DB) ⟨gc, 0, none⟩ (.bool fb) M1gc.out M2gc.out) ⟨gc, 1, none⟩ (.int .i64 fk) M1gc.out M2gc.out) ⟨gc, 2, none⟩ (.int .i64 fv) M1gc.out M2gc.out).put1 p p0 p1 (⟨cb, ck, cv⟩ : S79))
       have B9gt := Aside0.mk (far3 hw9 (blk_far (blk_far (blk_far (blk_below Bgt.out DB) (p := ⟨gc, 0, none⟩) Ngt_gc.out _) (p := ⟨gc, 1, none⟩) Ngt_gc.out _) (p := ⟨gc, 2, none⟩) Ngt_gc.out _) M1gt.out.symm)
       have B9gr := Aside0.mk (far3 hw9 (blk_far (blk_far (blk_far (blk_below Bgr.out DB) (p := ⟨gc, 0, none⟩) Ngr_gc.out _) (p := ⟨gc, 1, none⟩) Ngr_gc.out _) (p := ⟨gc, 2, none⟩) Ngr_gc.out _) M1gr.out.symm)
       have B9go := Aside0.mk (far3 hw9 (blk_far (blk_far (blk_far (blk_below Bgo.out DB) (p := ⟨gc, 0, none⟩) Ngo_gc.out _) (p := ⟨gc, 1, none⟩) Ngo_gc.out _) (p := ⟨gc, 2, none⟩) Ngo_gc.out _) M1go.out.symm)
       have B9gc := Aside0.mk (show w9.heap[gc]? = some (.cells #[.bool fb, .int .i64 fk, .int .i64 fv] 79 (0, 0)) from by rw [hw9]; exact blk_set3 (blk_put (cs := #[.bool fb, .int .i64 fk, .int .i64 cv]) (cs' := #[.bool fb, .int .i64 fk, .int .i64 fv]) (blk_put (cs := #[.bool fb, .int .i64 ck, .int .i64 cv]) (cs' := #[.bool fb, .int .i64 fk, .int .i64 cv]) (blk_put (cs := #[.bool cb, .int .i64 ck, .int .i64 cv]) (cs' := #[.bool fb, .int .i64 ck, .int .i64 cv]) (blk_below Bgc.out DB) 0 (.bool fb) rfl) 1 (.int .i64 fk) rfl) 2 (.int .i64 fv) rfl) M1gc.out.symm _)
       show Exit.then _ _ Exit.normal _ (set3 ((((wr.drewN (nd + 1)).setCell ⟨gc, 0, none⟩ (.bool fb)).setCell ⟨gc, 1, none⟩ (.int .i64 fk)).setCell ⟨gc, 2, none⟩ (.int .i64 fv)) g1 (p.toNat * 3) (⟨cb, ck, cv⟩ : S79))
       rw [← hw9]
       clear hw9 DB HB TT Bgt Bgr Bgo Bgc hx0 hx1 hx2 hy0 hy1 hy2 zt0 zg1 zg2 zc0 zc1 zc2 yc0 yc1 yc2 v0 v1 v2 v3 v4 v5 mm1 mm2
       have HB := HB9
       have TT := TT9
       have Bgt := B9gt
       have Bgr := B9gr
       have Bgo := B9go
       have Bgc := B9gc
       clear HB9 TT9 B9gt B9gr B9go B9gc
       have zc0 : w9.cell? ⟨gc, 0, none⟩ = some (.bool fb) := (blk_cell Bgc.out 0).trans rfl
       cases fb with
       | true =>
        have H := HH.out
        simp only [if_true] at H
        have H' := Aside0.mk H
        clear H HH
        go_wp2
        go_roundg k1
        case measure => have := HK1.out; omega
        case rel => exact ⟨_, _, _, _, _, _, rfl, H', ⟨by have := HK1.out; omega⟩, HB, TT, Bgt, Bgr, Bgo, Bgc⟩
       | false =>
        have H := HH.out
        simp only [Bool.false_eq_true, if_false, Option.some.injEq, Prod.mk.injEq] at H
        obtain ⟨rfl, rfl, rfl, rfl, rfl, rfl⟩ := H
        clear HH
        obtain ⟨⟨hzgo_0, hzgo_1, hzgo_2, hzgo_3⟩, hfgo_0, hfgo_1, hfgo_2, hfgo_3⟩ := open4 Bgo.out
        go_wp2_with (first | ((with_reducible refine gate_store (t := 3) (p := 65) rfl ?_); refine store_event (t := 3) (p := 65) (v := ?vo_w21) (w1 := (w9.setCell ⟨go, 3, none⟩ (.int .i64 (wrap64 (o4 + 1))))) ?hg ?ho ?hn ?hr ?_; (case ho => rfl); (case hg => rfl); (case hn => rfl); (case hr => first | (go_simp; done) | (go_simp; rfl)); intro w21 hw; replace HB := Aside0.mk (below1 hw HB.out Ggo.out); replace Bgt := Aside0.mk (far1 hw Bgt.out Ngt_go.out); replace Bgr := Aside0.mk (far1 hw Bgr.out Ngr_go.out); replace Bgo := Aside0.mk (show w21.heap[go]? = some (.cells #[.int .i64 o1, .slice (some ⟨g1, 0, none⟩) o2.length c1, .slice (some ⟨g2, 0, none⟩) o3.length c2, .int .i64 (wrap64 (o4 + 1))] 25 (0, 0)) from by rw [hw]; exact blk_put (cs := #[.int .i64 o1, .slice (some ⟨g1, 0, none⟩) o2.length c1, .slice (some ⟨g2, 0, none⟩) o3.length c2, .int .i64 o4]) Bgo.out 3 _ rfl); replace Bgc := Aside0.mk (far1 hw Bgc.out Ngc_go.out); replace TT := Aside0.mk (tb1 hw TT.out M1go.out M2go.out); clear hw; clear hzgo_0 hfgo_0 hzgo_1 hfgo_1 hzgo_2 hfgo_2 hzgo_3 hfgo_3; obtain ⟨⟨hzgr_0, hzgr_1, hzgr_2, hzgr_3⟩, hfgr_0, hfgr_1, hfgr_2, hfgr_3⟩ := open4 Bgr.out; obtain ⟨⟨hzgo_0, hzgo_1, hzgo_2, hzgo_3⟩, hfgo_0, hfgo_1, hfgo_2, hfgo_3⟩ := open4 Bgo.out) | ((with_reducible refine gate_store (t := 25) (p := 6) rfl ?_); refine store_event (t := 25) (p := 6) (v := ?vo_w22) (w1 := ((((w21.setCell ⟨gr, 0, none⟩ (.int .i64 o1)).setCell ⟨gr, 1, none⟩ (.slice (some ⟨g1, 0, none⟩) o2.length c1)).setCell ⟨gr, 2, none⟩ (.slice (some ⟨g2, 0, none⟩) o3.length c2)).setCell ⟨gr, 3, none⟩ (.int .i64 (wrap64 (o4 + 1))))) ?hg ?ho ?hn ?hr ?_; (case ho => rfl); (case hg => rfl); (case hn => rfl); (case hr => first | (go_simp; done) | (go_simp; rfl)); intro w22 hw; replace HB := Aside0.mk (below4 hw HB.out Ggr.out); replace Bgt := Aside0.mk (far4 hw Bgt.out Ngt_gr.out); replace Bgr := Aside0.mk (put4 hw Bgr.out); replace Bgo := Aside0.mk (far4 hw Bgo.out Ngo_gr.out); replace Bgc := Aside0.mk (far4 hw Bgc.out Ngc_gr.out); replace TT := Aside0.mk (tb4 hw TT.out M1gr.out M2gr.out); clear hw; clear hzgo_0 hfgo_0 hzgo_1 hfgo_1 hzgo_2 hfgo_2 hzgo_3 hfgo_3 hzgr_0 hfgr_0 hzgr_1 hfgr_1 hzgr_2 hfgr_2 hzgr_3 hfgr_3))
        refine bodyPost_ret (results_ctt rfl _ _ gr 25 #[.int .i64 o1, .slice (some ⟨g1, 0, none⟩) o2.length c1, .slice (some ⟨g2, 0, none⟩) o3.length c2, .int .i64 (wrap64 (o4 + 1))] (0, 0) _ rfl Bgr.out Try.underlying25 rfl (by kernel_rfl)) rfl ?_
        exact ⟨_, _, rfl, TT.out.back.1, TT.out.back.2, HB.out⟩
     ·simp only [if_neg hin] at H
      cases H
    ·rw [if_neg hx] at H
     have hxb : decide (x ≤ 24) = false := decide_eq_false hx
     simp only [Option.some.injEq, Prod.mk.injEq] at H
     obtain ⟨rfl, rfl, rfl, rfl, rfl, rfl⟩ := H
     obtain ⟨⟨hzgr_0, hzgr_1, hzgr_2, hzgr_3⟩, hfgr_0, hfgr_1, hfgr_2, hfgr_3⟩ := open4 Bgr.out
     go_wp2
     refine bodyPost_ret (results_ctt rfl _ _ gr 25 #[.int .i64 0, .slice none 0 0, .slice none 0 0, .int .i64 0] (0, 0) _ rfl (blk_put (cs := #[.int .i64 0, .slice none 0 0, .slice none 0 0, .int .i64 0]) (cs' := #[.int .i64 0, .slice none 0 0, .slice none 0 0, .int .i64 0]) (blk_put (cs := #[.int .i64 0, .slice none 0 0, .slice none 0 0, .int .i64 0]) (cs' := #[.int .i64 0, .slice none 0 0, .slice none 0 0, .int .i64 0]) (blk_put (cs := #[.int .i64 0, .slice none 0 0, .slice none 0 0, .int .i64 0]) (cs' := #[.int .i64 0, .slice none 0 0, .slice none 0 0, .int .i64 0]) (blk_put (cs := #[.int .i64 0, .slice none 0 0, .slice none 0 0, .int .i64 0]) (cs' := #[.int .i64 0, .slice none 0 0, .slice none 0 0, .int .i64 0]) (Bgr.out) 0 (.int .i64 0) rfl) 1 (.slice none 0 0) rfl) 2 (.slice none 0 0) rfl) 3 (.int .i64 0) rfl) Try.underlying25 rfl (by kernel_rfl)) rfl ?_
     exact ⟨_, _, rfl, Kd.R_nil _ _ _ _ _, Kd.R_nil _ _ _ _ _, below_set (below_set (below_set (below_set (HB.out) Ggr.out) Ggr.out) Ggr.out) Ggr.out⟩

/-! ### impl_RehashTo: function 24 -/
def impl_Table_find.ptrA (ba1 ba2 : Addr) (s i : Int) : Option Addr := if s = 1 then some (ba1.add (i.toNat * 3)) else if s = 2 then some (ba2.add (i.toNat * 3)) else none
set_option maxHeartbeats 4000000 in
set_option maxRecDepth 100000 in
theorem impl_Table_find.callsA (g : Nat) (ba1 ba2 : Addr) (c1 c2 : Nat) (a0 m : Int) (l1 l2 : List S79) (a1 s i : Int) (w : World)
  (hb : w.heap[g]? = some (.cells #[.int .i64 a0, .slice (some ba1) l1.length c1, .slice (some ba2) l2.length c2, .int .i64 m] 25 (0, 0)))
  (hr1 : Kd.C k79 w (some ba1) l1.length l1) (hr2 : Kd.C k79 w (some ba2) l2.length l2)
  (h : impl_Table_find.f a0 l1 l2 a1 = some (s, i)) :
  Calls Try.prog 66 #[.pointer (some ⟨g, 0, none⟩), .int .i64 a1] w fun e w' => e = .returned (.pointer (impl_Table_find.ptrA ba1 ba2 s i)) ∧ Below w.heap.size w w' := by
 have hu25 := Try.underlying25
 have hu79 := Try.underlying79
 obtain ⟨⟨p, q⟩, hp, h⟩ := Option.bind_eq_some_iff.mp h
 have hP := Aside0.mk hp
 clear hp
 by_cases hin : (0 ≤ p ∧ p < (l1.length : Int)) ∧ 0 ≤ q ∧ q < (l2.length : Int)
 ·simp only [if_pos hin] at h
  obtain ⟨⟨p0, p1⟩, q0, q1⟩ := hin
  have H := Aside0.mk h
  clear h
  have hx0 : w.cell? ⟨g, 0, none⟩ = some (.int .i64 a0) := (blk_cell hb 0).trans rfl
  have hx1 : w.cell? ⟨g, 1, none⟩ = some (.slice (some ba1) l1.length c1) := (blk_cell hb 1).trans rfl
  have hx2 : w.cell? ⟨g, 2, none⟩ = some (.slice (some ba2) l2.length c2) := (blk_cell hb 2).trans rfl
  have HB := Aside0.mk hb
  have R1 := Aside0.mk hr1
  have R2 := Aside0.mk hr2
  clear hb hr1 hr2
  go_enter Try.func66, Try.ntmps66
  go_wp2_with (first | (go_at_call 71; (refine (impl_placesOf.calls a0 a1 p q _ hP.out).mono ?_); rintro e w1 ⟨rfl, ⟨nd, rfl⟩⟩))
  have y1 : (w.drewN nd).cell? ⟨g, 1, none⟩ = some (.slice (some ba1) l1.length c1) := hx1
  have y2 : (w.drewN nd).cell? ⟨g, 2, none⟩ = some (.slice (some ba2) l2.length c2) := hx2
  go_region_held3 (fun w' => w'.cell? ⟨g, 1, none⟩ = some (.slice (some ba1) l1.length c1) ∧ w'.cell? ⟨g, 2, none⟩ = some (.slice (some ba2) l2.length c2)) (go_keep) (fail)
  obtain ⟨h, hh⟩ : ∃ h : Nat, h = w.heap.size := ⟨_, rfl⟩
  rw [← hh]
  obtain ⟨W, hW⟩ : ∃ W : World, W = (w.drewN (nd + 1)).alloc (.cells #[.pointer (some (ba1.add (p.toNat * 3))), .pointer (some (ba2.add (q.toNat * 3)))] 80) := ⟨_, rfl⟩
  rw [← hW]
  have BW := Aside0.mk (show Below w.heap.size w W by rw [hW]; repeat (first | exact Below.refl _ _ | apply below_alloc | apply pw_below_drewN | apply below_drew1))
  have L := heap_alloc_new (w.drewN (nd + 1)) (.cells #[.pointer (some (ba1.add (p.toNat * 3))), .pointer (some (ba2.add (q.toNat * 3)))] 80)
  rw [← hW, show (w.drewN (nd + 1)).heap.size = h from hh.symm] at L
  have L0 := Aside0.mk (show W.cell? ⟨h, 0, none⟩ = some (.pointer (some (ba1.add (p.toNat * 3)))) from (blk_cell L 0).trans rfl)
  have L1 := Aside0.mk (show W.cell? ⟨h, 1, none⟩ = some (.pointer (some (ba2.add (q.toNat * 3)))) from (blk_cell L 1).trans rfl)
  obtain ⟨ad1, e1, r10, r11, _⟩ := at_T79 R1.out p p0 p1
  cases e1
  obtain ⟨ad2, e2, r20, r21, _⟩ := at_T79 R2.out q q0 q1
  cases e2
  replace r10 := (BW.out.cell (World.block_lt_of_cell? w _ r10)).trans r10
  replace r11 := (BW.out.cell (World.block_lt_of_cell? w _ r11)).trans r11
  replace r20 := (BW.out.cell (World.block_lt_of_cell? w _ r20)).trans r20
  replace r21 := (BW.out.cell (World.block_lt_of_cell? w _ r21)).trans r21
  generalize (rd_T79 l1 p).f0 = b1 at *
  generalize (rd_T79 l1 p).f1 = v1 at *
  generalize (rd_T79 l2 q).f0 = b2 at *
  generalize (rd_T79 l2 q).f1 = v2 at *
  have X0 := Aside0.mk (And.intro r10 r11)
  have X1 := Aside0.mk (And.intro r20 r21)
  clear hx0 hx1 hx2 y1 y2 r10 r11 r20 r21 L hW hh p0 p1 q0 q1 hP R1 R2 HB
  go_wp2
  go_loopg [32] 2 (fun gg v32 w' => ∃ i : Nat, i ≤ 2 ∧ 2 - i ≤ gg ∧ v32 = .int .i64 i ∧ w' = W ∧ Aside0 (1 ≤ i → ¬ (b1 = true ∧ v1 = a1)) ∧ Aside0 (2 ≤ i → ¬ (b2 = true ∧ v2 = a1)))
  case atStart => exact ⟨0, by omega, by omega, rfl, rfl, ⟨fun h_ => absurd h_ (by omega)⟩, ⟨fun h_ => absurd h_ (by omega)⟩⟩
  case round =>
   obtain ⟨i_, hi, hg, rfl, rfl, H1, H2⟩ := hrel
   obtain rfl | rfl | rfl : i_ = 0 ∨ i_ = 1 ∨ i_ = 2 := by omega
   ·-- place 0
    have hl : wr.cell? ⟨h, 0, none⟩ = some (.pointer (some (ba1.add (p.toNat * 3)))) := L0.out
    have hx0 : wr.cell? (ba1.add (p.toNat * 3)) = some (.bool b1) := X0.out.1
    have hx1 : wr.cell? ⟨(ba1.add (p.toNat * 3)).block, (ba1.add (p.toNat * 3)).off + 1, none⟩ = some (.int .i64 v1) := X0.out.2
    cases b1 with
    | false =>
     go_wp2
     go_roundg 1
     case measure => omega
     case rel => exact ⟨1, by omega, by omega, by go_num, rfl, ⟨fun _ h_ => Bool.noConfusion h_.1⟩, ⟨fun h_ => absurd h_ (by omega)⟩⟩
    | true =>
     by_cases he : v1 = a1
     ·subst he
      go_wp2
      go_ret
      have h2 := H.out
      simp only [if_true, and_self, Option.some.injEq, Prod.mk.injEq] at h2
      obtain ⟨rfl, rfl⟩ := h2
      exact ⟨rfl, BW.out⟩
     ·have he' : (v1 == a1) = false := by simpa using he
      go_wp2
      go_roundg 1
      case measure => omega
      case rel => exact ⟨1, by omega, by omega, by go_num, rfl, ⟨fun _ h_ => he h_.2⟩, ⟨fun h_ => absurd h_ (by omega)⟩⟩
   ·-- place 1
    have hl : wr.cell? ⟨h, 1, none⟩ = some (.pointer (some (ba2.add (q.toNat * 3)))) := L1.out
    have hx0 : wr.cell? (ba2.add (q.toNat * 3)) = some (.bool b2) := X1.out.1
    have hx1 : wr.cell? ⟨(ba2.add (q.toNat * 3)).block, (ba2.add (q.toNat * 3)).off + 1, none⟩ = some (.int .i64 v2) := X1.out.2
    cases b2 with
    | false =>
     go_wp2
     go_roundg 0
     case measure => omega
     case rel => exact ⟨2, by omega, by omega, by go_num, rfl, ⟨fun _ => H1.out (by omega)⟩, ⟨fun _ h_ => Bool.noConfusion h_.1⟩⟩
    | true =>
     by_cases he : v2 = a1
     ·subst he
      go_wp2
      go_ret
      have h2 := H.out
      rw [if_neg (H1.out (by omega))] at h2
      simp only [if_true, and_self, Option.some.injEq, Prod.mk.injEq] at h2
      obtain ⟨rfl, rfl⟩ := h2
      exact ⟨rfl, BW.out⟩
     ·have he' : (v2 == a1) = false := by simpa using he
      go_wp2
      go_roundg 0
      case measure => omega
      case rel => exact ⟨2, by omega, by omega, by go_num, rfl, ⟨fun _ => H1.out (by omega)⟩, ⟨fun _ h_ => he h_.2⟩⟩
   ·have h2 := H.out
    rw [if_neg (H1.out (by omega)), if_neg (H2.out (by omega))] at h2
    simp only [Option.some.injEq, Prod.mk.injEq] at h2
    obtain ⟨rfl, rfl⟩ := h2
    go_wp2
    go_ret
    exact ⟨rfl, BW.out⟩
 ·simp only [if_neg hin] at h
  cases h
def impl_RehashTo.val (l1 l2 : List S79) (f : Int × Int) : Option Int := if f.1 = 1 then some (rd_T79 l1 f.2).f2 else if f.1 = 2 then some (rd_T79 l2 f.2).f2 else none
def impl_RehashTo.l0 : Nat → List Int → Int → Int → List S79 → List S79 → Int → List S79 → List S79 → Int → Option (Int × List S79 × List S79 × Int × Bool)
 | 0, _, _, _, _, _, _, _, _, _ => none
 | k + 1, ks, x, a0, l1, l2, o1, p, q, m => if 0 ≤ x then (if x < (ks.length : Int) then ((impl_Table_find.f a0 l1 l2 (rd ks x)).bind fun f => (impl_RehashTo.val l1 l2 f).bind fun v => (impl_put.f k o1 p q m (rd ks x) v).bind fun r => if r.2.2.2.2.2 = true then impl_RehashTo.l0 k ks (wrap64 (x + 1)) a0 l1 l2 r.1 r.2.1 r.2.2.1 r.2.2.2.1 else some (0, [], [], 0, false)) else some (o1, p, q, m, true)) else none
def impl_RehashTo.f (k : Nat) (a0_0 : Int) (l0_1 l0_2 : List S79) (a0_3 a1 : Int) : Option (Int × List S79 × List S79 × Int × Bool) :=
 (impl_NewTable.f a1).bind fun n => if n.2.2.2.2 = true then ((impl_GoodTable.f k a0_0 l0_1 l0_2 a0_3).bind fun g => if g = true then ((impl_keysIn.f k a0_0 l0_1 l0_2 a0_3).bind fun ks => impl_RehashTo.l0 k ks 0 a0_0 l0_1 l0_2 n.1 n.2.1 n.2.2.1 n.2.2.2.1) else some (0, [], [], 0, false)) else some (0, [], [], 0, false)
theorem impl_RehashTo.mono_l : ∀ k ks x a0 l1 l2 o1 p q m, LeO (impl_RehashTo.l0 k ks x a0 l1 l2 o1 p q m) (impl_RehashTo.l0 (k + 1) ks x a0 l1 l2 o1 p q m)
 | 0 => fun _ _ _ _ _ _ _ _ _ r h => by simp [impl_RehashTo.l0] at h
 | k + 1 => by
  intro ks x a0 l1 l2 o1 p q m
  unfold impl_RehashTo.l0
  exact LeO.ite (LeO.ite (LeO.bind (LeO.refl _) (fun _ => LeO.bind (LeO.refl _) (fun _ => LeO.bind (impl_put.mono _ _ _ _ _ _ _) (fun _ => LeO.ite (impl_RehashTo.mono_l k _ _ _ _ _ _ _ _ _) (LeO.refl _))))) (LeO.refl _)) (LeO.refl _)
theorem impl_RehashTo.mono : ∀ a0 a1 a2 a3 a4 k, LeO (impl_RehashTo.f k a0 a1 a2 a3 a4) (impl_RehashTo.f (k + 1) a0 a1 a2 a3 a4) := by
 intro a0 a1 a2 a3 a4 k
 unfold impl_RehashTo.f
 exact LeO.bind (LeO.refl _) (fun _ => LeO.ite (LeO.bind (impl_GoodTable.mono _ _ _ _ _) (fun _ => LeO.ite (LeO.bind (impl_keysIn.mono _ _ _ _ _) (fun _ => impl_RehashTo.mono_l k _ _ _ _ _ _ _ _ _)) (LeO.refl _))) (LeO.refl _))
set_option maxHeartbeats 8000000 in
set_option maxRecDepth 100000 in
theorem impl_RehashTo.calls (k : Nat) (a0_0 : Int) (A0_1 : Option Addr) (c0_1 : Nat) (l0_1 : List (S79)) (A0_2 : Option Addr) (c0_2 : Nat) (l0_2 : List (S79)) (a0_3 : Int) (a1 : Int) (r1 : Int) (r2 : List (S79)) (r3 : List (S79)) (r4 : Int) (r5 : Bool) (w : World) (hr0_1 : Kd.C k79 w A0_1 l0_1.length l0_1) (hc0_1 : l0_1.length ≤ c0_1) (hr0_2 : Kd.C k79 w A0_2 l0_2.length l0_2) (hc0_2 : l0_2.length ≤ c0_2) (h : impl_RehashTo.f k a0_0 l0_1 l0_2 a0_3 a1 = some (r1, r2, r3, r4, r5)) :
  Calls Try.prog 24 #[.agg #[.int .i64 a0_0, .slice A0_1 l0_1.length c0_1, .slice A0_2 l0_2.length c0_2, .int .i64 a0_3], .int .i64 a1] w fun e w' => ∃ v1_ v2_ : Value, e = .returned (.tuple #[.agg #[.int .i64 r1, v1_, v2_, .int .i64 r4], .bool r5]) ∧ Kd.R k79 79 w' w.heap.size (fun k_ => some k_ ≠ (v2_ : Value).ownBlock) v1_ r2 ∧ Kd.R k79 79 w' w.heap.size (fun k_ => some k_ ≠ (v1_ : Value).ownBlock) v2_ r3 ∧ Below w.heap.size w w' := by
 have hu25 := Try.underlying25
 have hu79 := Try.underlying79
 have hr := Aside0.mk (And.intro hr0_1 (And.intro hc0_1 (And.intro hr0_2 hc0_2)))
 clear hr0_1 hc0_1 hr0_2 hc0_2
 obtain ⟨⟨n1, n2, n3, n4, nb⟩, hn, h⟩ := Option.bind_eq_some_iff.mp h
 have hN := Aside0.mk hn
 clear hn
 cases nb with
 | false =>
  simp only [Bool.false_eq_true, if_false, Option.some.injEq, Prod.mk.injEq] at h
  obtain ⟨rfl, rfl, rfl, rfl, rfl⟩ := h
  go_enter Try.func24, Try.ntmps24
  go_wp2_with (first | ((with_reducible refine gate_dst (N := 2) rfl ?_); refine box_event ?hg (N := 2) ?hd (cs := #[.int .i64 a0_0, .slice A0_1 l0_1.length c0_1, .slice A0_2 l0_2.length c0_2, .int .i64 a0_3]) (t := 25) ?hr ?_; (case hd => rfl); (case hg => rfl); (case hr => first | (go_simp; done) | (go_simp; rfl)); intro gt hg w1 hbox hb; have Ggt := Aside0.mk (show w.heap.size ≤ gt by rw [hg]; exact Nat.le_refl _); have HB := Aside0.mk hb; have Bgt := Aside0.mk hbox; clear hb hbox hg) | ((with_reducible refine gate_dst (N := 4) rfl ?_); refine box_event ?hg (N := 4) ?hd (cs := #[.int .i64 0, .slice none 0 0, .slice none 0 0, .int .i64 0]) (t := 25) ?hr ?_; (case hd => rfl); (case hg => rfl); (case hr => first | (go_simp; done) | (go_simp; rfl)); intro gr hg w2 hbox hb; have Ggr := Aside0.mk (show w.heap.size ≤ gr by rw [hg]; exact HB.out.size); have Ngt_gr := Aside0.mk (show gt ≠ gr by rw [hg]; exact Nat.ne_of_lt (blk_lt Bgt.out)); have Ngr_gt := Aside0.mk (show gr ≠ gt by rw [hg]; exact Nat.ne_of_gt (blk_lt Bgt.out)); replace HB := Aside0.mk (below_step HB.out hb); replace Bgt := Aside0.mk (blk_below Bgt.out hb); have Bgr := Aside0.mk hbox; clear hb hbox hg) | (go_at_call 44; refine (impl_NewTable.calls a1 n1 n2 n3 n4 false _ hN.out).mono ?_; rintro e w3 ⟨v1, v2, rfl, y1, y2, hb⟩; have hs_ := HB.out.size; replace y1 := Kd.R_lower y1 hs_; replace y2 := Kd.R_lower y2 hs_; clear hs_; obtain ⟨Ap, cp, rfl⟩ := Kd.R_slice y1; obtain ⟨Aq, cq, rfl⟩ := Kd.R_slice y2; have RP := Aside0.mk y1; have RQ := Aside0.mk y2; clear y1 y2; replace HB := Aside0.mk (below_step HB.out hb); replace Bgt := Aside0.mk (blk_below Bgt.out hb); replace Bgr := Aside0.mk (blk_below Bgr.out hb); clear hb) | ((with_reducible refine gate_dst (N := 6) rfl ?_); refine box_event ?hg (N := 6) ?hd (cs := #[.int .i64 0, .slice none 0 0, .slice none 0 0, .int .i64 0]) (t := 25) ?hr ?_; (case hd => rfl); (case hg => rfl); (case hr => first | (go_simp; done) | (go_simp; rfl)); intro go hg w4 hbox hb; have Ggo := Aside0.mk (show w.heap.size ≤ go by rw [hg]; exact HB.out.size); have Ngt_go := Aside0.mk (show gt ≠ go by rw [hg]; exact Nat.ne_of_lt (blk_lt Bgt.out)); have Ngo_gt := Aside0.mk (show go ≠ gt by rw [hg]; exact Nat.ne_of_gt (blk_lt Bgt.out)); have Ngr_go := Aside0.mk (show gr ≠ go by rw [hg]; exact Nat.ne_of_lt (blk_lt Bgr.out)); have Ngo_gr := Aside0.mk (show go ≠ gr by rw [hg]; exact Nat.ne_of_gt (blk_lt Bgr.out)); replace HB := Aside0.mk (below_step HB.out hb); replace Bgt := Aside0.mk (blk_below Bgt.out hb); replace Bgr := Aside0.mk (blk_below Bgr.out hb); replace RP := Aside0.mk (Kd.R_below RP.out hb); replace RQ := Aside0.mk (Kd.R_below RQ.out hb); have Bgo := Aside0.mk hbox; clear hb hbox hg; obtain ⟨⟨hzgo_0, hzgo_1, hzgo_2, hzgo_3⟩, hfgo_0, hfgo_1, hfgo_2, hfgo_3⟩ := open4 Bgo.out) | ((with_reducible refine gate_store (t := 25) (p := 6) rfl ?_); refine store_event (t := 25) (p := 6) (v := ?vo_w5) (w1 := ((((w4.setCell ⟨go, 0, none⟩ (.int .i64 n1)).setCell ⟨go, 1, none⟩ (.slice Ap n2.length cp)).setCell ⟨go, 2, none⟩ (.slice Aq n3.length cq)).setCell ⟨go, 3, none⟩ (.int .i64 n4))) ?hg ?ho ?hn ?hr ?_; (case ho => rfl); (case hg => rfl); (case hn => rfl); (case hr => first | (go_simp; done) | (go_simp; rfl)); intro w5 hw; replace RP := Aside0.mk (row4 hw RP.out Bgo.out (by decide)); replace RQ := Aside0.mk (row4 hw RQ.out Bgo.out (by decide)); replace HB := Aside0.mk (below4 hw HB.out Ggo.out); replace Bgt := Aside0.mk (far4 hw Bgt.out Ngt_go.out); replace Bgr := Aside0.mk (far4 hw Bgr.out Ngr_go.out); replace Bgo := Aside0.mk (put4 hw Bgo.out); clear hw; clear hzgo_0 hfgo_0 hzgo_1 hfgo_1 hzgo_2 hfgo_2 hzgo_3 hfgo_3; obtain ⟨⟨hzgt_0, hzgt_1, hzgt_2, hzgt_3⟩, hfgt_0, hfgt_1, hfgt_2, hfgt_3⟩ := open4 Bgt.out; obtain ⟨⟨hzgr_0, hzgr_1, hzgr_2, hzgr_3⟩, hfgr_0, hfgr_1, hfgr_2, hfgr_3⟩ := open4 Bgr.out))
  refine bodyPost_ret (results_ct rfl _ _ gr 25 #[.int .i64 0, .slice none 0 0, .slice none 0 0, .int .i64 0] (0, 0) _ rfl (blk_put (cs := #[.int .i64 0, .slice none 0 0, .slice none 0 0, .int .i64 0]) (cs' := #[.int .i64 0, .slice none 0 0, .slice none 0 0, .int .i64 0]) (blk_put (cs := #[.int .i64 0, .slice none 0 0, .slice none 0 0, .int .i64 0]) (cs' := #[.int .i64 0, .slice none 0 0, .slice none 0 0, .int .i64 0]) (blk_put (cs := #[.int .i64 0, .slice none 0 0, .slice none 0 0, .int .i64 0]) (cs' := #[.int .i64 0, .slice none 0 0, .slice none 0 0, .int .i64 0]) (blk_put (cs := #[.int .i64 0, .slice none 0 0, .slice none 0 0, .int .i64 0]) (cs' := #[.int .i64 0, .slice none 0 0, .slice none 0 0, .int .i64 0]) (Bgr.out) 0 (.int .i64 0) rfl) 1 (.slice none 0 0) rfl) 2 (.slice none 0 0) rfl) 3 (.int .i64 0) rfl) Try.underlying25 rfl (by kernel_rfl)) rfl ?_
  exact ⟨_, _, rfl, Kd.R_nil _ _ _ _ _, Kd.R_nil _ _ _ _ _, below_set (below_set (below_set (below_set (HB.out) Ggr.out) Ggr.out) Ggr.out) Ggr.out⟩
 | true =>
  simp only [if_true] at h
  obtain ⟨g, hg_, h⟩ := Option.bind_eq_some_iff.mp h
  have hG := Aside0.mk hg_
  clear hg_
  cases g with
  | false =>
   simp only [Bool.false_eq_true, if_false, Option.some.injEq, Prod.mk.injEq] at h
   obtain ⟨rfl, rfl, rfl, rfl, rfl⟩ := h
   go_enter Try.func24, Try.ntmps24
   go_wp2_with (first | ((with_reducible refine gate_dst (N := 2) rfl ?_); refine box_event ?hg (N := 2) ?hd (cs := #[.int .i64 a0_0, .slice A0_1 l0_1.length c0_1, .slice A0_2 l0_2.length c0_2, .int .i64 a0_3]) (t := 25) ?hr ?_; (case hd => rfl); (case hg => rfl); (case hr => first | (go_simp; done) | (go_simp; rfl)); intro gt hg w1 hbox hb; have Ggt := Aside0.mk (show w.heap.size ≤ gt by rw [hg]; exact Nat.le_refl _); have HB := Aside0.mk hb; have Bgt := Aside0.mk hbox; clear hb hbox hg) | ((with_reducible refine gate_dst (N := 4) rfl ?_); refine box_event ?hg (N := 4) ?hd (cs := #[.int .i64 0, .slice none 0 0, .slice none 0 0, .int .i64 0]) (t := 25) ?hr ?_; (case hd => rfl); (case hg => rfl); (case hr => first | (go_simp; done) | (go_simp; rfl)); intro gr hg w2 hbox hb; have Ggr := Aside0.mk (show w.heap.size ≤ gr by rw [hg]; exact HB.out.size); have Ngt_gr := Aside0.mk (show gt ≠ gr by rw [hg]; exact Nat.ne_of_lt (blk_lt Bgt.out)); have Ngr_gt := Aside0.mk (show gr ≠ gt by rw [hg]; exact Nat.ne_of_gt (blk_lt Bgt.out)); replace HB := Aside0.mk (below_step HB.out hb); replace Bgt := Aside0.mk (blk_below Bgt.out hb); have Bgr := Aside0.mk hbox; clear hb hbox hg) | (go_at_call 44; refine (impl_NewTable.calls a1 n1 n2 n3 n4 true _ hN.out).mono ?_; rintro e w3 ⟨v1, v2, rfl, y1, y2, hb⟩; have hs_ := HB.out.size; replace y1 := Kd.R_lower y1 hs_; replace y2 := Kd.R_lower y2 hs_; clear hs_; obtain ⟨Ap, cp, rfl⟩ := Kd.R_slice y1; obtain ⟨Aq, cq, rfl⟩ := Kd.R_slice y2; have RP := Aside0.mk y1; have RQ := Aside0.mk y2; clear y1 y2; replace HB := Aside0.mk (below_step HB.out hb); replace Bgt := Aside0.mk (blk_below Bgt.out hb); replace Bgr := Aside0.mk (blk_below Bgr.out hb); clear hb) | ((with_reducible refine gate_dst (N := 6) rfl ?_); refine box_event ?hg (N := 6) ?hd (cs := #[.int .i64 0, .slice none 0 0, .slice none 0 0, .int .i64 0]) (t := 25) ?hr ?_; (case hd => rfl); (case hg => rfl); (case hr => first | (go_simp; done) | (go_simp; rfl)); intro go hg w4 hbox hb; have Ggo := Aside0.mk (show w.heap.size ≤ go by rw [hg]; exact HB.out.size); have Ngt_go := Aside0.mk (show gt ≠ go by rw [hg]; exact Nat.ne_of_lt (blk_lt Bgt.out)); have Ngo_gt := Aside0.mk (show go ≠ gt by rw [hg]; exact Nat.ne_of_gt (blk_lt Bgt.out)); have Ngr_go := Aside0.mk (show gr ≠ go by rw [hg]; exact Nat.ne_of_lt (blk_lt Bgr.out)); have Ngo_gr := Aside0.mk (show go ≠ gr by rw [hg]; exact Nat.ne_of_gt (blk_lt Bgr.out)); replace HB := Aside0.mk (below_step HB.out hb); replace Bgt := Aside0.mk (blk_below Bgt.out hb); replace Bgr := Aside0.mk (blk_below Bgr.out hb); replace RP := Aside0.mk (Kd.R_below RP.out hb); replace RQ := Aside0.mk (Kd.R_below RQ.out hb); have Bgo := Aside0.mk hbox; clear hb hbox hg; obtain ⟨⟨hzgo_0, hzgo_1, hzgo_2, hzgo_3⟩, hfgo_0, hfgo_1, hfgo_2, hfgo_3⟩ := open4 Bgo.out) | ((with_reducible refine gate_store (t := 25) (p := 6) rfl ?_); refine store_event (t := 25) (p := 6) (v := ?vo_w5) (w1 := ((((w4.setCell ⟨go, 0, none⟩ (.int .i64 n1)).setCell ⟨go, 1, none⟩ (.slice Ap n2.length cp)).setCell ⟨go, 2, none⟩ (.slice Aq n3.length cq)).setCell ⟨go, 3, none⟩ (.int .i64 n4))) ?hg ?ho ?hn ?hr ?_; (case ho => rfl); (case hg => rfl); (case hn => rfl); (case hr => first | (go_simp; done) | (go_simp; rfl)); intro w5 hw; replace RP := Aside0.mk (row4 hw RP.out Bgo.out (by decide)); replace RQ := Aside0.mk (row4 hw RQ.out Bgo.out (by decide)); replace HB := Aside0.mk (below4 hw HB.out Ggo.out); replace Bgt := Aside0.mk (far4 hw Bgt.out Ngt_go.out); replace Bgr := Aside0.mk (far4 hw Bgr.out Ngr_go.out); replace Bgo := Aside0.mk (put4 hw Bgo.out); clear hw; clear hzgo_0 hfgo_0 hzgo_1 hfgo_1 hzgo_2 hfgo_2 hzgo_3 hfgo_3; obtain ⟨⟨hzgt_0, hzgt_1, hzgt_2, hzgt_3⟩, hfgt_0, hfgt_1, hfgt_2, hfgt_3⟩ := open4 Bgt.out; obtain ⟨⟨hzgr_0, hzgr_1, hzgr_2, hzgr_3⟩, hfgr_0, hfgr_1, hfgr_2, hfgr_3⟩ := open4 Bgr.out) | (go_at_call 27; refine (impl_GoodTable.calls k a0_0 A0_1 c0_1 l0_1 A0_2 c0_2 l0_2 a0_3 false _ (Kd.C_below hr.out.1 HB.out) hr.out.2.1 (Kd.C_below hr.out.2.2.1 HB.out) hr.out.2.2.2 hG.out).mono ?_; rintro e w6 ⟨rfl, hb⟩; replace HB := Aside0.mk (below_step HB.out hb); replace Bgt := Aside0.mk (blk_below Bgt.out hb); replace Bgr := Aside0.mk (blk_below Bgr.out hb); replace Bgo := Aside0.mk (blk_below Bgo.out hb); replace RP := Aside0.mk (Kd.R_below RP.out hb); replace RQ := Aside0.mk (Kd.R_below RQ.out hb); clear hb; clear hzgr_0 hfgr_0 hzgr_1 hfgr_1 hzgr_2 hfgr_2 hzgr_3 hfgr_3 hzgt_0 hfgt_0 hzgt_1 hfgt_1 hzgt_2 hfgt_2 hzgt_3 hfgt_3; obtain ⟨⟨hzgt_0, hzgt_1, hzgt_2, hzgt_3⟩, hfgt_0, hfgt_1, hfgt_2, hfgt_3⟩ := open4 Bgt.out; obtain ⟨⟨hzgr_0, hzgr_1, hzgr_2, hzgr_3⟩, hfgr_0, hfgr_1, hfgr_2, hfgr_3⟩ := open4 Bgr.out))
   refine bodyPost_ret (results_ct rfl _ _ gr 25 #[.int .i64 0, .slice none 0 0, .slice none 0 0, .int .i64 0] (0, 0) _ rfl (blk_put (cs := #[.int .i64 0, .slice none 0 0, .slice none 0 0, .int .i64 0]) (cs' := #[.int .i64 0, .slice none 0 0, .slice none 0 0, .int .i64 0]) (blk_put (cs := #[.int .i64 0, .slice none 0 0, .slice none 0 0, .int .i64 0]) (cs' := #[.int .i64 0, .slice none 0 0, .slice none 0 0, .int .i64 0]) (blk_put (cs := #[.int .i64 0, .slice none 0 0, .slice none 0 0, .int .i64 0]) (cs' := #[.int .i64 0, .slice none 0 0, .slice none 0 0, .int .i64 0]) (blk_put (cs := #[.int .i64 0, .slice none 0 0, .slice none 0 0, .int .i64 0]) (cs' := #[.int .i64 0, .slice none 0 0, .slice none 0 0, .int .i64 0]) (Bgr.out) 0 (.int .i64 0) rfl) 1 (.slice none 0 0) rfl) 2 (.slice none 0 0) rfl) 3 (.int .i64 0) rfl) Try.underlying25 rfl (by kernel_rfl)) rfl ?_
   exact ⟨_, _, rfl, Kd.R_nil _ _ _ _ _, Kd.R_nil _ _ _ _ _, below_set (below_set (below_set (below_set (HB.out) Ggr.out) Ggr.out) Ggr.out) Ggr.out⟩
  | true =>
   simp only [if_true] at h
   obtain ⟨ks, hk_, h⟩ := Option.bind_eq_some_iff.mp h
   have hK := Aside0.mk hk_
   have H := Aside0.mk h
   clear hk_ h
   go_enter Try.func24, Try.ntmps24
   go_wp2_with (first | ((with_reducible refine gate_dst (N := 2) rfl ?_); refine box_event ?hg (N := 2) ?hd (cs := #[.int .i64 a0_0, .slice A0_1 l0_1.length c0_1, .slice A0_2 l0_2.length c0_2, .int .i64 a0_3]) (t := 25) ?hr ?_; (case hd => rfl); (case hg => rfl); (case hr => first | (go_simp; done) | (go_simp; rfl)); intro gt hg w1 hbox hb; have Ggt := Aside0.mk (show w.heap.size ≤ gt by rw [hg]; exact Nat.le_refl _); have HB := Aside0.mk hb; have Bgt := Aside0.mk hbox; clear hb hbox hg) | ((with_reducible refine gate_dst (N := 4) rfl ?_); refine box_event ?hg (N := 4) ?hd (cs := #[.int .i64 0, .slice none 0 0, .slice none 0 0, .int .i64 0]) (t := 25) ?hr ?_; (case hd => rfl); (case hg => rfl); (case hr => first | (go_simp; done) | (go_simp; rfl)); intro gr hg w2 hbox hb; have Ggr := Aside0.mk (show w.heap.size ≤ gr by rw [hg]; exact HB.out.size); have Ngt_gr := Aside0.mk (show gt ≠ gr by rw [hg]; exact Nat.ne_of_lt (blk_lt Bgt.out)); have Ngr_gt := Aside0.mk (show gr ≠ gt by rw [hg]; exact Nat.ne_of_gt (blk_lt Bgt.out)); replace HB := Aside0.mk (below_step HB.out hb); replace Bgt := Aside0.mk (blk_below Bgt.out hb); have Bgr := Aside0.mk hbox; clear hb hbox hg) | (go_at_call 44; refine (impl_NewTable.calls a1 n1 n2 n3 n4 true _ hN.out).mono ?_; rintro e w3 ⟨v1, v2, rfl, y1, y2, hb⟩; have hs_ := HB.out.size; replace y1 := Kd.R_lower y1 hs_; replace y2 := Kd.R_lower y2 hs_; clear hs_; obtain ⟨Ap, cp, rfl⟩ := Kd.R_slice y1; obtain ⟨Aq, cq, rfl⟩ := Kd.R_slice y2; have RP := Aside0.mk y1; have RQ := Aside0.mk y2; clear y1 y2; replace HB := Aside0.mk (below_step HB.out hb); replace Bgt := Aside0.mk (blk_below Bgt.out hb); replace Bgr := Aside0.mk (blk_below Bgr.out hb); clear hb) | ((with_reducible refine gate_dst (N := 6) rfl ?_); refine box_event ?hg (N := 6) ?hd (cs := #[.int .i64 0, .slice none 0 0, .slice none 0 0, .int .i64 0]) (t := 25) ?hr ?_; (case hd => rfl); (case hg => rfl); (case hr => first | (go_simp; done) | (go_simp; rfl)); intro go hg w4 hbox hb; have Ggo := Aside0.mk (show w.heap.size ≤ go by rw [hg]; exact HB.out.size); have Ngt_go := Aside0.mk (show gt ≠ go by rw [hg]; exact Nat.ne_of_lt (blk_lt Bgt.out)); have Ngo_gt := Aside0.mk (show go ≠ gt by rw [hg]; exact Nat.ne_of_gt (blk_lt Bgt.out)); have Ngr_go := Aside0.mk (show gr ≠ go by rw [hg]; exact Nat.ne_of_lt (blk_lt Bgr.out)); have Ngo_gr := Aside0.mk (show go ≠ gr by rw [hg]; exact Nat.ne_of_gt (blk_lt Bgr.out)); replace HB := Aside0.mk (below_step HB.out hb); replace Bgt := Aside0.mk (blk_below Bgt.out hb); replace Bgr := Aside0.mk (blk_below Bgr.out hb); replace RP := Aside0.mk (Kd.R_below RP.out hb); replace RQ := Aside0.mk (Kd.R_below RQ.out hb); have Bgo := Aside0.mk hbox; clear hb hbox hg; obtain ⟨⟨hzgo_0, hzgo_1, hzgo_2, hzgo_3⟩, hfgo_0, hfgo_1, hfgo_2, hfgo_3⟩ := open4 Bgo.out) | ((with_reducible refine gate_store (t := 25) (p := 6) rfl ?_); refine store_event (t := 25) (p := 6) (v := ?vo_w5) (w1 := ((((w4.setCell ⟨go, 0, none⟩ (.int .i64 n1)).setCell ⟨go, 1, none⟩ (.slice Ap n2.length cp)).setCell ⟨go, 2, none⟩ (.slice Aq n3.length cq)).setCell ⟨go, 3, none⟩ (.int .i64 n4))) ?hg ?ho ?hn ?hr ?_; (case ho => rfl); (case hg => rfl); (case hn => rfl); (case hr => first | (go_simp; done) | (go_simp; rfl)); intro w5 hw; replace RP := Aside0.mk (row4 hw RP.out Bgo.out (by decide)); replace RQ := Aside0.mk (row4 hw RQ.out Bgo.out (by decide)); replace HB := Aside0.mk (below4 hw HB.out Ggo.out); replace Bgt := Aside0.mk (far4 hw Bgt.out Ngt_go.out); replace Bgr := Aside0.mk (far4 hw Bgr.out Ngr_go.out); replace Bgo := Aside0.mk (put4 hw Bgo.out); clear hw; clear hzgo_0 hfgo_0 hzgo_1 hfgo_1 hzgo_2 hfgo_2 hzgo_3 hfgo_3; obtain ⟨⟨hzgt_0, hzgt_1, hzgt_2, hzgt_3⟩, hfgt_0, hfgt_1, hfgt_2, hfgt_3⟩ := open4 Bgt.out; obtain ⟨⟨hzgr_0, hzgr_1, hzgr_2, hzgr_3⟩, hfgr_0, hfgr_1, hfgr_2, hfgr_3⟩ := open4 Bgr.out) | (go_at_call 27; refine (impl_GoodTable.calls k a0_0 A0_1 c0_1 l0_1 A0_2 c0_2 l0_2 a0_3 true _ (Kd.C_below hr.out.1 HB.out) hr.out.2.1 (Kd.C_below hr.out.2.2.1 HB.out) hr.out.2.2.2 hG.out).mono ?_; rintro e w6 ⟨rfl, hb⟩; replace HB := Aside0.mk (below_step HB.out hb); replace Bgt := Aside0.mk (blk_below Bgt.out hb); replace Bgr := Aside0.mk (blk_below Bgr.out hb); replace Bgo := Aside0.mk (blk_below Bgo.out hb); replace RP := Aside0.mk (Kd.R_below RP.out hb); replace RQ := Aside0.mk (Kd.R_below RQ.out hb); clear hb; clear hzgr_0 hfgr_0 hzgr_1 hfgr_1 hzgr_2 hfgr_2 hzgr_3 hfgr_3 hzgt_0 hfgt_0 hzgt_1 hfgt_1 hzgt_2 hfgt_2 hzgt_3 hfgt_3; obtain ⟨⟨hzgt_0, hzgt_1, hzgt_2, hzgt_3⟩, hfgt_0, hfgt_1, hfgt_2, hfgt_3⟩ := open4 Bgt.out; obtain ⟨⟨hzgr_0, hzgr_1, hzgr_2, hzgr_3⟩, hfgr_0, hfgr_1, hfgr_2, hfgr_3⟩ := open4 Bgr.out) | (go_at_call 65; refine (impl_keysIn.calls k a0_0 A0_1 c0_1 l0_1 A0_2 c0_2 l0_2 a0_3 ks _ (Kd.C_below hr.out.1 HB.out) hr.out.2.1 (Kd.C_below hr.out.2.2.1 HB.out) hr.out.2.2.2 hK.out).mono ?_; rintro e w7 ⟨v0, rfl, y0, hb⟩; replace y0 := Kd.R_lower y0 HB.out.size; obtain ⟨Ak, ck, rfl⟩ := Kd.R_slice y0; have KR := Aside0.mk y0; clear y0; replace HB := Aside0.mk (below_step HB.out hb); replace Bgt := Aside0.mk (blk_below Bgt.out hb); replace Bgr := Aside0.mk (blk_below Bgr.out hb); replace Bgo := Aside0.mk (blk_below Bgo.out hb); replace RP := Aside0.mk (Kd.R_below RP.out hb); replace RQ := Aside0.mk (Kd.R_below RQ.out hb); clear hb; clear hzgr_0 hfgr_0 hzgr_1 hfgr_1 hzgr_2 hfgr_2 hzgr_3 hfgr_3 hzgt_0 hfgt_0 hzgt_1 hfgt_1 hzgt_2 hfgt_2 hzgt_3 hfgt_3))
   go_loopg [26] k (fun kq v26 w' => ∃ (x o1 m : Int) (p q : List S79) (Bp Bq : Option Addr) (dp dq : Nat), v26 = .int .i64 x ∧ Aside0 (impl_RehashTo.l0 kq ks x a0_0 l0_1 l0_2 o1 p q m = some (r1, r2, r3, r4, r5)) ∧ Aside0 (kq ≤ k) ∧ Aside0 (Below w.heap.size w w') ∧ Aside0 (Kd.R k79 79 w' w.heap.size (fun k_ => some k_ ≠ (.slice Bq q.length dq : Value).ownBlock) (.slice Bp p.length dp) p) ∧ Aside0 (Kd.R k79 79 w' w.heap.size (fun k_ => some k_ ≠ (.slice Bp p.length dp : Value).ownBlock) (.slice Bq q.length dq) q) ∧ Aside0 (Kd.R (Kd.int .i64) 3 w' w.heap.size (fun _ => True) (.slice Ak ks.length ck) ks) ∧ Aside0 (w'.heap[gt]? = some (.cells #[.int .i64 a0_0, .slice A0_1 l0_1.length c0_1, .slice A0_2 l0_2.length c0_2, .int .i64 a0_3] 25 (0, 0))) ∧ Aside0 (w'.heap[gr]? = some (.cells #[.int .i64 0, .slice none 0 0, .slice none 0 0, .int .i64 0] 25 (0, 0))) ∧ Aside0 (w'.heap[go]? = some (.cells #[.int .i64 o1, .slice Bp p.length dp, .slice Bq q.length dq, .int .i64 m] 25 (0, 0))))
   case atStart => exact ⟨0, n1, n4, n2, n3, Ap, Aq, cp, cq, rfl, H, ⟨Nat.le_refl _⟩, HB, RP, RQ, KR, Bgt, Bgr, Bgo⟩
   case round =>
    clear H HB RP RQ KR Bgt Bgr Bgo
    (try clear hN hG hK)
    obtain ⟨x, o1, m, p, q, Bp, Bq, dp, dq, rfl, HA, HK1, HB, RP, RQ, KR, Bgt, Bgr, Bgo⟩ := hrel
    cases gk with
    | zero => exact absurd HA.out (by simp [impl_RehashTo.l0])
    | succ k1 =>
     have H := HA.out
     clear HA
     simp only [impl_RehashTo.l0] at H
     by_cases x0 : 0 ≤ x
     ·rw [if_pos x0] at H
      by_cases x1 : x < (ks.length : Int)
      ·rw [if_pos x1] at H
       have x0b : decide (0 ≤ x) = true := decide_eq_true x0
       have x1b : decide (x < (ks.length : Int)) = true := decide_eq_true x1
       obtain ⟨⟨s, i⟩, hf, H⟩ := Option.bind_eq_some_iff.mp H
       obtain ⟨v, hv, H⟩ := Option.bind_eq_some_iff.mp H
       obtain ⟨⟨u1, u2, u3, u4, u5, ub⟩, hp, H⟩ := Option.bind_eq_some_iff.mp H
       have hF := Aside0.mk hf
       have hV := Aside0.mk hv
       have hP := Aside0.mk hp
       have HH := Aside0.mk H
       obtain ⟨t1, t2, hs⟩ := impl_Table_find.range hf
       clear hf hv hp H
       obtain ⟨adk, ek, hxk⟩ := Kd.at_int (Kd.R_reads' KR.out).2.2 x x0 x1
       cases ek
       obtain ⟨ad1, e1, _⟩ := at_T79 hr.out.1 0 (by decide) (by omega)
       cases e1
       obtain ⟨ad2, e2, _⟩ := at_T79 hr.out.2.2.1 0 (by decide) (by omega)
       cases e2
       clear t1 t2
       generalize rd ks x = key at hF hP hxk
       rcases hs with ⟨rfl, i0, i1⟩ | ⟨rfl, i0, i1⟩ | ⟨rfl, rfl⟩
       ·have I0 := Aside0.mk i0
        have I1 := Aside0.mk i1
        clear i0 i1
        have hv_ := hV.out
        simp only [impl_RehashTo.val, if_true, Option.some.injEq] at hv_
        subst hv_
        clear hV
        (try clear hzgo_0 hzgo_1 hzgo_2 hzgo_3 hfgo_0 hfgo_1 hfgo_2 hfgo_3)
        obtain ⟨⟨hzgo_0, hzgo_1, hzgo_2, hzgo_3⟩, hfgo_0, hfgo_1, hfgo_2, hfgo_3⟩ := open4 Bgo.out
        go_wp2
        go_region_with (first | (go_at_call 66; refine (impl_Table_find.callsA gt ad1 ad2 c0_1 c0_2 a0_0 a0_3 l0_1 l0_2 key 1 i _ (by exact Bgt.out) (by first | exact (Kd.C_below hr.out.1 HB.out) | exact Kd.C_drewN (Kd.C_below hr.out.1 HB.out) _ | exact Kd.C_drew (Kd.C_below hr.out.1 HB.out)) (by first | exact (Kd.C_below hr.out.2.2.1 HB.out) | exact Kd.C_drewN (Kd.C_below hr.out.2.2.1 HB.out) _ | exact Kd.C_drew (Kd.C_below hr.out.2.2.1 HB.out)) hF.out).mono ?_; rintro e w1 ⟨he, hb⟩; replace he := he.trans (show _ = Ending.returned (.pointer (some (ad1.add (i.toNat * 3)))) from rfl); subst he; have hb' : Below wr.heap.size wr w1 := (by first | exact hb | exact below_step (pw_below_drewN (Below.refl _ _) _) hb | exact below_step (below_drew1 (Below.refl _ _)) hb); clear hb; have hb := hb'; clear hb'; replace HB := Aside0.mk (below_step HB.out hb); replace Bgt := Aside0.mk (blk_below Bgt.out hb); replace Bgr := Aside0.mk (blk_below Bgr.out hb); replace Bgo := Aside0.mk (blk_below Bgo.out hb); replace KR := Aside0.mk (Kd.R_below KR.out hb); replace RP := Aside0.mk (Kd.R_below RP.out hb); replace RQ := Aside0.mk (Kd.R_below RQ.out hb); clear hb; obtain ⟨adv, ev, hv0, hv1, hv2⟩ := at_T79 (Kd.C_below hr.out.1 HB.out) i I0.out I1.out; cases ev; clear hv0 hv1; (try clear hzgo_0 hzgo_1 hzgo_2 hzgo_3 hfgo_0 hfgo_1 hfgo_2 hfgo_3); obtain ⟨⟨hzgo_0, hzgo_1, hzgo_2, hzgo_3⟩, hfgo_0, hfgo_1, hfgo_2, hfgo_3⟩ := open4 Bgo.out) | (go_at_call 55; refine (impl_put.calls k1 o1 (Bp) dp p (Bq) dq q m key (rd_T79 l0_1 i).f2 u1 u2 u3 u4 u5 ub _ (by first | exact (Kd.R_reads' RP.out).2.2 | exact Kd.C_drewN (Kd.R_reads' RP.out).2.2 _ | exact Kd.C_drew (Kd.R_reads' RP.out).2.2) (Kd.R_reads' RP.out).2.1 (by first | exact (Kd.R_reads' RQ.out).2.2 | exact Kd.C_drewN (Kd.R_reads' RQ.out).2.2 _ | exact Kd.C_drew (Kd.R_reads' RQ.out).2.2) (Kd.R_reads' RQ.out).2.1 hP.out).mono ?_; rintro e w2 ⟨z1, z2, rfl, y1, y2, hb⟩; have hb' : Below w1.heap.size w1 w2 := (by first | exact hb | exact below_step (pw_below_drewN (Below.refl _ _) _) hb | exact below_step (below_drew1 (Below.refl _ _)) hb); replace y1 := Kd.R_lower y1 (show w.heap.size ≤ _ from HB.out.size); replace y2 := Kd.R_lower y2 (show w.heap.size ≤ _ from HB.out.size); clear RP RQ; clear hb; have hb := hb'; clear hb'; replace HB := Aside0.mk (below_step HB.out hb); replace Bgt := Aside0.mk (blk_below Bgt.out hb); replace Bgr := Aside0.mk (blk_below Bgr.out hb); replace Bgo := Aside0.mk (blk_below Bgo.out hb); replace KR := Aside0.mk (Kd.R_below KR.out hb); clear hb; obtain ⟨Cp, ep, rfl⟩ := Kd.R_slice y1; obtain ⟨Cq, eq, rfl⟩ := Kd.R_slice y2; have RP := Aside0.mk y1; have RQ := Aside0.mk y2; clear y1 y2; (try clear hv2); (try clear hzgo_0 hzgo_1 hzgo_2 hzgo_3 hfgo_0 hfgo_1 hfgo_2 hfgo_3); obtain ⟨⟨hzgo_0, hzgo_1, hzgo_2, hzgo_3⟩, hfgo_0, hfgo_1, hfgo_2, hfgo_3⟩ := open4 Bgo.out))
        all_goals
         obtain ⟨w3, hw3⟩ : ∃ w3 : World, w3 = ((((w2.setCell ⟨go, 0, none⟩ (.int .i64 u1)).setCell ⟨go, 1, none⟩ (.slice Cp u2.length ep)).setCell ⟨go, 2, none⟩ (.slice Cq u3.length eq)).setCell ⟨go, 3, none⟩ (.int .i64 u4)) := ⟨_, rfl⟩
         have HB3 := Aside0.mk (below4 hw3 HB.out Ggo.out)
         have RP3 := Aside0.mk (row4 hw3 RP.out Bgo.out (by decide))
         have RQ3 := Aside0.mk (row4 hw3 RQ.out Bgo.out (by decide))
         have KR3 := Aside0.mk (row4 hw3 KR.out Bgo.out (by decide))
         have Bgt3 := Aside0.mk (far4 hw3 Bgt.out Ngt_go.out)
         have Bgr3 := Aside0.mk (far4 hw3 Bgr.out Ngr_go.out)
         have Bgo3 := Aside0.mk (put4 hw3 Bgo.out)
         clear HB RP RQ KR Bgt Bgr Bgo
         have HB := HB3
         have RP := RP3
         have RQ := RQ3
         have KR := KR3
         have Bgt := Bgt3
         have Bgr := Bgr3
         have Bgo := Bgo3
         (try clear hzgo_0 hzgo_1 hzgo_2 hzgo_3 hfgo_0 hfgo_1 hfgo_2 hfgo_3 hxk)
         rw [← hw3]
         clear hw3
         show Exit.then _ _ Exit.normal (Act.put _ (some 7) (.bool ub)) w3
         (try simp only [Act.put, List.setIfInBounds_toArray, List.set_cons_zero, List.set_cons_succ])
         cases ub with
         | true =>
          have H := HH.out
          simp only [if_true] at H
          have H' := Aside0.mk H
          clear H HH
          go_wp2
          go_roundg k1
          case measure => have := HK1.out; omega
          case rel => exact ⟨_, u1, u4, u2, u3, Cp, Cq, ep, eq, rfl, H', ⟨by have := HK1.out; omega⟩, HB, RP, RQ, KR, Bgt, Bgr, Bgo⟩
         | false =>
          have H := HH.out
          simp only [Bool.false_eq_true, if_false, Option.some.injEq, Prod.mk.injEq] at H
          obtain ⟨rfl, rfl, rfl, rfl, rfl⟩ := H
          clear HH
          obtain ⟨⟨hzgr_0, hzgr_1, hzgr_2, hzgr_3⟩, hfgr_0, hfgr_1, hfgr_2, hfgr_3⟩ := open4 Bgr.out
          go_wp2
          refine bodyPost_ret (results_ct rfl _ _ gr 25 #[.int .i64 0, .slice none 0 0, .slice none 0 0, .int .i64 0] (0, 0) _ rfl (blk_put (cs := #[.int .i64 0, .slice none 0 0, .slice none 0 0, .int .i64 0]) (cs' := #[.int .i64 0, .slice none 0 0, .slice none 0 0, .int .i64 0]) (blk_put (cs := #[.int .i64 0, .slice none 0 0, .slice none 0 0, .int .i64 0]) (cs' := #[.int .i64 0, .slice none 0 0, .slice none 0 0, .int .i64 0]) (blk_put (cs := #[.int .i64 0, .slice none 0 0, .slice none 0 0, .int .i64 0]) (cs' := #[.int .i64 0, .slice none 0 0, .slice none 0 0, .int .i64 0]) (blk_put (cs := #[.int .i64 0, .slice none 0 0, .slice none 0 0, .int .i64 0]) (cs' := #[.int .i64 0, .slice none 0 0, .slice none 0 0, .int .i64 0]) (Bgr.out) 0 (.int .i64 0) rfl) 1 (.slice none 0 0) rfl) 2 (.slice none 0 0) rfl) 3 (.int .i64 0) rfl) Try.underlying25 rfl (by kernel_rfl)) rfl ?_
          exact ⟨_, _, rfl, Kd.R_nil _ _ _ _ _, Kd.R_nil _ _ _ _ _, below_set (below_set (below_set (below_set (HB.out) Ggr.out) Ggr.out) Ggr.out) Ggr.out⟩
       ·have I0 := Aside0.mk i0
        have I1 := Aside0.mk i1
        clear i0 i1
        have hv_ := hV.out
        simp only [impl_RehashTo.val, show ¬ ((2 : Int) = 1) by decide, if_true, if_false, Option.some.injEq] at hv_
        subst hv_
        clear hV
        (try clear hzgo_0 hzgo_1 hzgo_2 hzgo_3 hfgo_0 hfgo_1 hfgo_2 hfgo_3)
        obtain ⟨⟨hzgo_0, hzgo_1, hzgo_2, hzgo_3⟩, hfgo_0, hfgo_1, hfgo_2, hfgo_3⟩ := open4 Bgo.out
        go_wp2
        go_region_with (first | (go_at_call 66; refine (impl_Table_find.callsA gt ad1 ad2 c0_1 c0_2 a0_0 a0_3 l0_1 l0_2 key 2 i _ (by exact Bgt.out) (by first | exact (Kd.C_below hr.out.1 HB.out) | exact Kd.C_drewN (Kd.C_below hr.out.1 HB.out) _ | exact Kd.C_drew (Kd.C_below hr.out.1 HB.out)) (by first | exact (Kd.C_below hr.out.2.2.1 HB.out) | exact Kd.C_drewN (Kd.C_below hr.out.2.2.1 HB.out) _ | exact Kd.C_drew (Kd.C_below hr.out.2.2.1 HB.out)) hF.out).mono ?_; rintro e w1 ⟨he, hb⟩; replace he := he.trans (show _ = Ending.returned (.pointer (some (ad2.add (i.toNat * 3)))) from rfl); subst he; have hb' : Below wr.heap.size wr w1 := (by first | exact hb | exact below_step (pw_below_drewN (Below.refl _ _) _) hb | exact below_step (below_drew1 (Below.refl _ _)) hb); clear hb; have hb := hb'; clear hb'; replace HB := Aside0.mk (below_step HB.out hb); replace Bgt := Aside0.mk (blk_below Bgt.out hb); replace Bgr := Aside0.mk (blk_below Bgr.out hb); replace Bgo := Aside0.mk (blk_below Bgo.out hb); replace KR := Aside0.mk (Kd.R_below KR.out hb); replace RP := Aside0.mk (Kd.R_below RP.out hb); replace RQ := Aside0.mk (Kd.R_below RQ.out hb); clear hb; obtain ⟨adv, ev, hv0, hv1, hv2⟩ := at_T79 (Kd.C_below hr.out.2.2.1 HB.out) i I0.out I1.out; cases ev; clear hv0 hv1; (try clear hzgo_0 hzgo_1 hzgo_2 hzgo_3 hfgo_0 hfgo_1 hfgo_2 hfgo_3); obtain ⟨⟨hzgo_0, hzgo_1, hzgo_2, hzgo_3⟩, hfgo_0, hfgo_1, hfgo_2, hfgo_3⟩ := open4 Bgo.out) | (go_at_call 55; refine (impl_put.calls k1 o1 (Bp) dp p (Bq) dq q m key (rd_T79 l0_2 i).f2 u1 u2 u3 u4 u5 ub _ (by first | exact (Kd.R_reads' RP.out).2.2 | exact Kd.C_drewN (Kd.R_reads' RP.out).2.2 _ | exact Kd.C_drew (Kd.R_reads' RP.out).2.2) (Kd.R_reads' RP.out).2.1 (by first | exact (Kd.R_reads' RQ.out).2.2 | exact Kd.C_drewN (Kd.R_reads' RQ.out).2.2 _ | exact Kd.C_drew (Kd.R_reads' RQ.out).2.2) (Kd.R_reads' RQ.out).2.1 hP.out).mono ?_; rintro e w2 ⟨z1, z2, rfl, y1, y2, hb⟩; have hb' : Below w1.heap.size w1 w2 := (by first | exact hb | exact below_step (pw_below_drewN (Below.refl _ _) _) hb | exact below_step (below_drew1 (Below.refl _ _)) hb); replace y1 := Kd.R_lower y1 (show w.heap.size ≤ _ from HB.out.size); replace y2 := Kd.R_lower y2 (show w.heap.size ≤ _ from HB.out.size); clear RP RQ; clear hb; have hb := hb'; clear hb'; replace HB := Aside0.mk (below_step HB.out hb); replace Bgt := Aside0.mk (blk_below Bgt.out hb); replace Bgr := Aside0.mk (blk_below Bgr.out hb); replace Bgo := Aside0.mk (blk_below Bgo.out hb); replace KR := Aside0.mk (Kd.R_below KR.out hb); clear hb; obtain ⟨Cp, ep, rfl⟩ := Kd.R_slice y1; obtain ⟨Cq, eq, rfl⟩ := Kd.R_slice y2; have RP := Aside0.mk y1; have RQ := Aside0.mk y2; clear y1 y2; (try clear hv2); (try clear hzgo_0 hzgo_1 hzgo_2 hzgo_3 hfgo_0 hfgo_1 hfgo_2 hfgo_3); obtain ⟨⟨hzgo_0, hzgo_1, hzgo_2, hzgo_3⟩, hfgo_0, hfgo_1, hfgo_2, hfgo_3⟩ := open4 Bgo.out))
        all_goals
         obtain ⟨w3, hw3⟩ : ∃ w3 : World, w3 = ((((w2.setCell ⟨go, 0, none⟩ (.int .i64 u1)).setCell ⟨go, 1, none⟩ (.slice Cp u2.length ep)).setCell ⟨go, 2, none⟩ (.slice Cq u3.length eq)).setCell ⟨go, 3, none⟩ (.int .i64 u4)) := ⟨_, rfl⟩
         have HB3 := Aside0.mk (below4 hw3 HB.out Ggo.out)
         have RP3 := Aside0.mk (row4 hw3 RP.out Bgo.out (by decide))
         have RQ3 := Aside0.mk (row4 hw3 RQ.out Bgo.out (by decide))
         have KR3 := Aside0.mk (row4 hw3 KR.out Bgo.out (by decide))
         have Bgt3 := Aside0.mk (far4 hw3 Bgt.out Ngt_go.out)
         have Bgr3 := Aside0.mk (far4 hw3 Bgr.out Ngr_go.out)
         have Bgo3 := Aside0.mk (put4 hw3 Bgo.out)
         clear HB RP RQ KR Bgt Bgr Bgo
         have HB := HB3
         have RP := RP3
         have RQ := RQ3
         have KR := KR3
         have Bgt := Bgt3
         have Bgr := Bgr3
         have Bgo := Bgo3
         (try clear hzgo_0 hzgo_1 hzgo_2 hzgo_3 hfgo_0 hfgo_1 hfgo_2 hfgo_3 hxk)
         rw [← hw3]
         clear hw3
         show Exit.then _ _ Exit.normal (Act.put _ (some 7) (.bool ub)) w3
         (try simp only [Act.put, List.setIfInBounds_toArray, List.set_cons_zero, List.set_cons_succ])
         cases ub with
         | true =>
          have H := HH.out
          simp only [if_true] at H
          have H' := Aside0.mk H
          clear H HH
          go_wp2
          go_roundg k1
          case measure => have := HK1.out; omega
          case rel => exact ⟨_, u1, u4, u2, u3, Cp, Cq, ep, eq, rfl, H', ⟨by have := HK1.out; omega⟩, HB, RP, RQ, KR, Bgt, Bgr, Bgo⟩
         | false =>
          have H := HH.out
          simp only [Bool.false_eq_true, if_false, Option.some.injEq, Prod.mk.injEq] at H
          obtain ⟨rfl, rfl, rfl, rfl, rfl⟩ := H
          clear HH
          obtain ⟨⟨hzgr_0, hzgr_1, hzgr_2, hzgr_3⟩, hfgr_0, hfgr_1, hfgr_2, hfgr_3⟩ := open4 Bgr.out
          go_wp2
          refine bodyPost_ret (results_ct rfl _ _ gr 25 #[.int .i64 0, .slice none 0 0, .slice none 0 0, .int .i64 0] (0, 0) _ rfl (blk_put (cs := #[.int .i64 0, .slice none 0 0, .slice none 0 0, .int .i64 0]) (cs' := #[.int .i64 0, .slice none 0 0, .slice none 0 0, .int .i64 0]) (blk_put (cs := #[.int .i64 0, .slice none 0 0, .slice none 0 0, .int .i64 0]) (cs' := #[.int .i64 0, .slice none 0 0, .slice none 0 0, .int .i64 0]) (blk_put (cs := #[.int .i64 0, .slice none 0 0, .slice none 0 0, .int .i64 0]) (cs' := #[.int .i64 0, .slice none 0 0, .slice none 0 0, .int .i64 0]) (blk_put (cs := #[.int .i64 0, .slice none 0 0, .slice none 0 0, .int .i64 0]) (cs' := #[.int .i64 0, .slice none 0 0, .slice none 0 0, .int .i64 0]) (Bgr.out) 0 (.int .i64 0) rfl) 1 (.slice none 0 0) rfl) 2 (.slice none 0 0) rfl) 3 (.int .i64 0) rfl) Try.underlying25 rfl (by kernel_rfl)) rfl ?_
          exact ⟨_, _, rfl, Kd.R_nil _ _ _ _ _, Kd.R_nil _ _ _ _ _, below_set (below_set (below_set (below_set (HB.out) Ggr.out) Ggr.out) Ggr.out) Ggr.out⟩
       ·exact absurd hV.out (by simp [impl_RehashTo.val])
      ·rw [if_neg x1] at H
       have x1b : decide (x < (ks.length : Int)) = false := decide_eq_false x1
       simp only [Option.some.injEq, Prod.mk.injEq] at H
       obtain ⟨rfl, rfl, rfl, rfl, rfl⟩ := H
       obtain ⟨⟨hzgo_0, hzgo_1, hzgo_2, hzgo_3⟩, hfgo_0, hfgo_1, hfgo_2, hfgo_3⟩ := open4 Bgo.out; obtain ⟨⟨hzgr_0, hzgr_1, hzgr_2, hzgr_3⟩, hfgr_0, hfgr_1, hfgr_2, hfgr_3⟩ := open4 Bgr.out
       go_wp2_with (first | ((with_reducible refine gate_store (t := 25) (p := 4) rfl ?_); refine store_event (t := 25) (p := 4) (v := ?vo_w31) (w1 := ((((wr.setCell ⟨gr, 0, none⟩ (.int .i64 o1)).setCell ⟨gr, 1, none⟩ (.slice Bp p.length dp)).setCell ⟨gr, 2, none⟩ (.slice Bq q.length dq)).setCell ⟨gr, 3, none⟩ (.int .i64 m))) ?hg ?ho ?hn ?hr ?_; (case ho => rfl); (case hg => rfl); (case hn => rfl); (case hr => first | (go_simp; done) | (go_simp; rfl)); intro w31 hw; replace RP := Aside0.mk (row4 hw RP.out Bgr.out (by decide)); replace RQ := Aside0.mk (row4 hw RQ.out Bgr.out (by decide)); replace HB := Aside0.mk (below4 hw HB.out Ggr.out); replace Bgt := Aside0.mk (far4 hw Bgt.out Ngt_gr.out); replace Bgr := Aside0.mk (put4 hw Bgr.out); replace Bgo := Aside0.mk (far4 hw Bgo.out Ngo_gr.out); clear hw; clear hzgo_0 hfgo_0 hzgo_1 hfgo_1 hzgo_2 hfgo_2 hzgo_3 hfgo_3 hzgr_0 hfgr_0 hzgr_1 hfgr_1 hzgr_2 hfgr_2 hzgr_3 hfgr_3))
       refine bodyPost_ret (results_ct rfl _ _ gr 25 #[.int .i64 o1, .slice Bp p.length dp, .slice Bq q.length dq, .int .i64 m] (0, 0) _ rfl Bgr.out Try.underlying25 rfl (by kernel_rfl)) rfl ?_
       exact ⟨_, _, rfl, RP.out, RQ.out, HB.out⟩
     ·rw [if_neg x0] at H
      cases H

end Go.Proofs.Ytemnidhllbbjnaa.XFnExactRehashTo
