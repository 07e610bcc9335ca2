-- Written by xprint.py of this session: out of the translation, by the kit's print with contracts of this session.
import Derived.Test.YtgnijlfakjjfcaaXFnExactUsesInx0
import Derived.Test.YtgnijlfakjjfcaaXFnExactUsesInx6
namespace Go.Proofs.Ytgnijlfakjjfcaa.XFnExactUsesIn
open Go.RowKit Go.Proofs.YtgnijlfakjjfcaaW.PrintWords Go.Proofs.YtgnijlfakjjfcaaW.PrintLast Go.Proofs.YtgnijlfakjjfcaaW.PrintMore
open Go.Proofs.Ytgnijlfakjjfcaa.Min0
attribute [local go_sem] max2_int min2_int max_two min_two max_three min_three max_four min_four   -- for this text's walks alone
set_option linter.unusedVariables false
set_option linter.unusedSimpArgs false

/-! ### impl_isRising: function 67 -/
def impl_isRising.l0 : Nat → List Int → Int → List Int → Int → Int → Option (Bool)
 | 0, _, _, _, _, _ => none
 | k + 1, x0, x1, x7, x8, x9 => if x9 < x8 then (if 0 ≤ x9 then (if x9 < (x7.length : Int) then ((impl_within.f (rd x7 x9) 0 (wrap64 (x1 - 1))).bind fun t267 => (if t267 = true then (if x9 > 0 then (if 0 ≤ (wrap64 (x9 - 1)) then (if (wrap64 (x9 - 1)) < (x0.length : Int) then (if (rd x7 x9) ≤ (rd x0 (wrap64 (x9 - 1))) then (some false) else (impl_isRising.l0 k x0 x1 x7 x8 (wrap64 (x9 + 1)))) else (none)) else (none)) else (impl_isRising.l0 k x0 x1 x7 x8 (wrap64 (x9 + 1)))) else (some false))) else (none)) else (none)) else (some true)
def impl_isRising.f (k : Nat) (l0 : List Int) (a1 : Int) : Option (Bool) := impl_isRising.l0 k l0 a1 l0 (l0.length : Int) 0
theorem impl_isRising.mono_l : ∀ k, (∀ y0 y1 y2 y3 y4, LeO (impl_isRising.l0 k y0 y1 y2 y3 y4) (impl_isRising.l0 (k + 1) y0 y1 y2 y3 y4))
 | 0 => fun _ _ _ _ _ r h => by simp [impl_isRising.l0] at h
 | k + 1 => by
  have ih0 := impl_isRising.mono_l k
  ·intro y0 y1 y2 y3 y4
   unfold impl_isRising.l0
   repeat' first
   | (with_reducible exact ih0 _ _ _ _ _)
   | (with_reducible exact LeO.refl _)
   | (with_reducible exact LeO.none _)
   | (with_reducible refine LeO.ite ?_ ?_)
   | (with_reducible refine LeO.bind ?_ (fun _ => ?_))
   | exact ih0 _ _ _ _ _
   | exact LeO.none _
   | refine LeO.ite ?_ ?_
   | refine LeO.bind ?_ (fun _ => ?_)
theorem impl_isRising.mono : ∀ a0 a1 k, LeO (impl_isRising.f k a0 a1) (impl_isRising.f (k + 1) a0 a1) := by
 intro a0 a1 k
 have ih0 := impl_isRising.mono_l k
 unfold impl_isRising.f
 repeat' first
   | (with_reducible exact ih0 _ _ _ _ _)
   | (with_reducible exact LeO.refl _)
   | (with_reducible exact LeO.none _)
   | (with_reducible refine LeO.ite ?_ ?_)
   | (with_reducible refine LeO.bind ?_ (fun _ => ?_))
   | exact ih0 _ _ _ _ _
   | exact LeO.none _
   | refine LeO.ite ?_ ?_
   | refine LeO.bind ?_ (fun _ => ?_)
set_option maxHeartbeats 8000000 in
set_option maxRecDepth 100000 in
theorem impl_isRising.calls (k : Nat) (A0 : Option Addr) (c0 : Nat) (l0 : List Int) (a1 : Int) (r : Bool) (w : World) (hr0 : Kd.C (Kd.int .i64) w A0 l0.length l0) (hc0 : l0.length ≤ c0) (h : impl_isRising.f k l0 a1 = some r) :
  Calls Try.prog 67 #[.slice A0 l0.length c0, .int .i64 a1] w fun e w' => e = .returned (.bool r) ∧ Drawn0 w w' := by
 have HR0 := Aside0.mk hr0
 have HC0 := Aside0.mk hc0
 clear hr0 hc0
 have H : (impl_isRising.l0 k l0 a1 l0 (l0.length : Int) 0) = some r := h
 clear h
 have H' := Aside0.mk H
 clear H
 go_enter Try.func67, Try.ntmps67
 go_wp2
 go_loopg [9] k (fun kq v9 w' => ∃ (x9_1 : Int), v9 = .int .i64 x9_1 ∧ Aside0 (impl_isRising.l0 kq l0 a1 l0 (l0.length : Int) x9_1 = some r) ∧ Aside0 (kq ≤ k) ∧ Drawn0 w w')
 case atStart => exact ⟨(0), (by first | rfl | (simp; done) | (simp [*]; done)), H', ⟨Nat.le_refl _⟩, by repeat (first | exact Drawn0.refl _ | apply Drawn0.step)⟩
 case round =>
  clear H'
  try clear p2
  obtain ⟨x9_1, rfl, HA, HK1, ⟨m1, rfl⟩⟩ := hrel
  cases gk with
  | zero => exact absurd HA.out (by simp [impl_isRising.l0])
  | succ k1 =>
   have H := HA.out
   clear HA
   simp only [impl_isRising.l0] at H
   by_cases c3 : x9_1 < (l0.length : Int)
   ·rw [if_pos c3] at H
    have c3b0 : decide (x9_1 < (l0.length : Int)) = true := decide_eq_true c3
    clear c3
    by_cases c4 : 0 ≤ x9_1
    ·rw [if_pos c4] at H
     have c4b0 : decide (0 ≤ x9_1) = true := decide_eq_true c4
     clear c4
     by_cases c5 : x9_1 < (l0.length : Int)
     ·rw [if_pos c5] at H
      have c5b0 : decide (x9_1 < (l0.length : Int)) = true := decide_eq_true c5
      clear c5
      replace H := Option.bind_eq_some_iff.mp H
      obtain ⟨t267, A60, H⟩ := H
      replace H : (if t267 = true then (if x9_1 > 0 then (if 0 ≤ (wrap64 (x9_1 - 1)) then (if (wrap64 (x9_1 - 1)) < (l0.length : Int) then (if (rd l0 x9_1) ≤ (rd l0 (wrap64 (x9_1 - 1))) then (some false) else (impl_isRising.l0 k1 l0 a1 l0 (l0.length : Int) (wrap64 (x9_1 + 1)))) else (none)) else (none)) else (impl_isRising.l0 k1 l0 a1 l0 (l0.length : Int) (wrap64 (x9_1 + 1)))) else (some false)) = some r := H
      have A6 := Aside0.mk A60
      clear A60
      by_cases c7 : t267 = true
      ·subst c7
       have H1 : (if x9_1 > 0 then (if 0 ≤ (wrap64 (x9_1 - 1)) then (if (wrap64 (x9_1 - 1)) < (l0.length : Int) then (if (rd l0 x9_1) ≤ (rd l0 (wrap64 (x9_1 - 1))) then (some false) else (impl_isRising.l0 k1 l0 a1 l0 (l0.length : Int) (wrap64 (x9_1 + 1)))) else (none)) else (none)) else (impl_isRising.l0 k1 l0 a1 l0 (l0.length : Int) (wrap64 (x9_1 + 1)))) = some r := by rw [if_pos rfl] at H; exact H
       clear H
       have H := H1
       clear H1
       by_cases c8 : x9_1 > 0
       ·rw [if_pos c8] at H
        have c8b0 : decide (0 < x9_1) = true := decide_eq_true c8
        clear c8
        obtain ⟨ji9, hji9⟩ : ∃ j_ : Int, (wrap64 (x9_1 - 1)) = j_ := ⟨_, rfl⟩
        replace H : (if 0 ≤ (ji9) then (if (ji9) < (l0.length : Int) then (if (rd l0 x9_1) ≤ (rd l0 (ji9)) then (some false) else (impl_isRising.l0 k1 l0 a1 l0 (l0.length : Int) (wrap64 (x9_1 + 1)))) else (none)) else (none)) = some r := by first | (rw [hji9] at H; exact H) | (simp only [hji9] at H ⊢; exact H)
        (try rw [hji9] at A6)
        have hji9w : (IntKind.i64.wrap (x9_1 - 1)) = ji9 := (i64_w _).trans hji9
        by_cases c10 : 0 ≤ (ji9)
        ·rw [if_pos c10] at H
         have c10b0 : decide (0 ≤ (ji9)) = true := decide_eq_true c10
         clear c10
         by_cases c11 : (ji9) < (l0.length : Int)
         ·rw [if_pos c11] at H
          have c11b0 : decide ((ji9) < (l0.length : Int)) = true := decide_eq_true c11
          clear c11
          by_cases c12 : (rd l0 x9_1) ≤ (rd l0 (ji9))
          ·rw [if_pos c12] at H
           have c12b0 : decide ((rd l0 x9_1) ≤ (rd l0 (ji9))) = true := decide_eq_true c12
           clear c12
           obtain rfl := Option.some.inj H
           have p266 : 0 ≤ (x9_1 : Int) := of_decide_eq_true (by first | (with_reducible assumption) | assumption)
           have q266 : x9_1 < (l0.length : Int) := of_decide_eq_true (by first | (with_reducible assumption) | assumption)
           obtain ⟨ad266, e266, hx266_0⟩ := Kd.at_int HR0.out x9_1 p266 q266
           cases e266
           replace p266 := eq_true p266
           replace q266 := eq_true q266
           go_wp2_with (first | ((with_reducible refine gate_callee (f := 46) rfl ?_); refine goesL_ (some 17) rfl rfl Try.func46 (by kernel_rfl) rfl #[.int .i64 (rd l0 x9_1), .int .i64 0, .int .i64 (wrap64 (a1 - 1))] rfl (by (try simp only [List.map_toArray, List.map_cons, List.map_nil]); first | done | rfl | (simp only [List.length_drop, List.length_take]; rfl)) ?_; (with_reducible refine (impl_within.calls (rd l0 x9_1) 0 (wrap64 (a1 - 1)) true _ A6.out).mono ?_); rintro e w' ⟨rfl, ⟨nd, rfl⟩⟩; refine ⟨_, rfl, ?_⟩; have p268 : 0 ≤ ((ji9) : Int) := of_decide_eq_true (by first | (with_reducible assumption) | assumption); have q268 : (ji9) < (l0.length : Int) := of_decide_eq_true (by first | (with_reducible assumption) | assumption); obtain ⟨ad268, e268, hx268_0⟩ := Kd.at_int HR0.out (ji9) p268 q268; obtain rfl : ad266 = ad268 := (by injection e268); replace p268 := eq_true p268; replace q268 := eq_true q268))
           go_ret
           exact ⟨by first | rfl | (simp; done) | (simp only [← hji9] <;> (first | rfl | simp)) | (simp [*]; done), by repeat (first | exact Drawn0.refl _ | apply Drawn0.step)⟩
          ·rw [if_neg c12] at H
           have c12b0 : decide ((rd l0 x9_1) ≤ (rd l0 (ji9))) = false := decide_eq_false c12
           clear c12
           have H' := Aside0.mk H
           clear H
           have p266 : 0 ≤ (x9_1 : Int) := of_decide_eq_true (by first | (with_reducible assumption) | assumption)
           have q266 : x9_1 < (l0.length : Int) := of_decide_eq_true (by first | (with_reducible assumption) | assumption)
           obtain ⟨ad266, e266, hx266_0⟩ := Kd.at_int HR0.out x9_1 p266 q266
           cases e266
           replace p266 := eq_true p266
           replace q266 := eq_true q266
           go_wp2_with (first | ((with_reducible refine gate_callee (f := 46) rfl ?_); refine goesL_ (some 17) rfl rfl Try.func46 (by kernel_rfl) rfl #[.int .i64 (rd l0 x9_1), .int .i64 0, .int .i64 (wrap64 (a1 - 1))] rfl (by (try simp only [List.map_toArray, List.map_cons, List.map_nil]); first | done | rfl | (simp only [List.length_drop, List.length_take]; rfl)) ?_; (with_reducible refine (impl_within.calls (rd l0 x9_1) 0 (wrap64 (a1 - 1)) true _ A6.out).mono ?_); rintro e w' ⟨rfl, ⟨nd, rfl⟩⟩; refine ⟨_, rfl, ?_⟩; have p268 : 0 ≤ ((ji9) : Int) := of_decide_eq_true (by first | (with_reducible assumption) | assumption); have q268 : (ji9) < (l0.length : Int) := of_decide_eq_true (by first | (with_reducible assumption) | assumption); obtain ⟨ad268, e268, hx268_0⟩ := Kd.at_int HR0.out (ji9) p268 q268; obtain rfl : ad266 = ad268 := (by injection e268); replace p268 := eq_true p268; replace q268 := eq_true q268))
           go_roundg k1
           case measure => have := HK1.out; omega
           case rel => exact ⟨(wrap64 (x9_1 + 1)), (by first | rfl | (simp; done) | (simp [*]; done)), H', ⟨by have := HK1.out; omega⟩, by repeat (first | exact Drawn0.refl _ | apply Drawn0.step)⟩
         ·rw [if_neg c11] at H
          exact absurd H (by simp)
        ·rw [if_neg c10] at H
         exact absurd H (by simp)
       ·rw [if_neg c8] at H
        have c8b0 : decide (0 < x9_1) = false := decide_eq_false c8
        clear c8
        have H' := Aside0.mk H
        clear H
        have p266 : 0 ≤ (x9_1 : Int) := of_decide_eq_true (by first | (with_reducible assumption) | assumption)
        have q266 : x9_1 < (l0.length : Int) := of_decide_eq_true (by first | (with_reducible assumption) | assumption)
        obtain ⟨ad266, e266, hx266_0⟩ := Kd.at_int HR0.out x9_1 p266 q266
        cases e266
        replace p266 := eq_true p266
        replace q266 := eq_true q266
        go_wp2_with (first | ((with_reducible refine gate_callee (f := 46) rfl ?_); refine goesL_ (some 17) rfl rfl Try.func46 (by kernel_rfl) rfl #[.int .i64 (rd l0 x9_1), .int .i64 0, .int .i64 (wrap64 (a1 - 1))] rfl (by (try simp only [List.map_toArray, List.map_cons, List.map_nil]); first | done | rfl | (simp only [List.length_drop, List.length_take]; rfl)) ?_; (with_reducible refine (impl_within.calls (rd l0 x9_1) 0 (wrap64 (a1 - 1)) true _ A6.out).mono ?_); rintro e w' ⟨rfl, ⟨nd, rfl⟩⟩; refine ⟨_, rfl, ?_⟩))
        go_roundg k1
        case measure => have := HK1.out; omega
        case rel => exact ⟨(wrap64 (x9_1 + 1)), (by first | rfl | (simp; done) | (simp [*]; done)), H', ⟨by have := HK1.out; omega⟩, by repeat (first | exact Drawn0.refl _ | apply Drawn0.step)⟩
      ·replace c7 := Bool.eq_false_iff.mpr c7
       subst c7
       have H1 : (some false) = some r := by rw [if_neg (show ¬ (false = true) by decide)] at H; exact H
       clear H
       have H := H1
       clear H1
       obtain rfl := Option.some.inj H
       have p266 : 0 ≤ (x9_1 : Int) := of_decide_eq_true (by first | (with_reducible assumption) | assumption)
       have q266 : x9_1 < (l0.length : Int) := of_decide_eq_true (by first | (with_reducible assumption) | assumption)
       obtain ⟨ad266, e266, hx266_0⟩ := Kd.at_int HR0.out x9_1 p266 q266
       cases e266
       replace p266 := eq_true p266
       replace q266 := eq_true q266
       go_wp2_with (first | ((with_reducible refine gate_callee (f := 46) rfl ?_); refine goesL_ (some 17) rfl rfl Try.func46 (by kernel_rfl) rfl #[.int .i64 (rd l0 x9_1), .int .i64 0, .int .i64 (wrap64 (a1 - 1))] rfl (by (try simp only [List.map_toArray, List.map_cons, List.map_nil]); first | done | rfl | (simp only [List.length_drop, List.length_take]; rfl)) ?_; (with_reducible refine (impl_within.calls (rd l0 x9_1) 0 (wrap64 (a1 - 1)) false _ A6.out).mono ?_); rintro e w' ⟨rfl, ⟨nd, rfl⟩⟩; refine ⟨_, rfl, ?_⟩))
       go_ret
       exact ⟨by first | rfl | (simp; done) | (simp [*]; done), by repeat (first | exact Drawn0.refl _ | apply Drawn0.step)⟩
     ·rw [if_neg c5] at H
      exact absurd H (by simp)
    ·rw [if_neg c4] at H
     exact absurd H (by simp)
   ·rw [if_neg c3] at H
    have c3b0 : decide (x9_1 < (l0.length : Int)) = false := decide_eq_false c3
    clear c3
    obtain rfl := Option.some.inj H
    go_wp2
    go_ret
    exact ⟨by first | rfl | (simp; done) | (simp [*]; done), by repeat (first | exact Drawn0.refl _ | apply Drawn0.step)⟩

/-! ### impl_Store_stripes: function 68 -/
def impl_Store_stripes.f (l0_0 : List ByteArray) (l0_1 : List ByteArray) (l0_2 : List Bool) (l0_3 : List Int) (a0_4 : Int) (a0_5 : Int) (l0_6 : List (List Int)) (l0_7 : List Int) : Option (Int) := some (l0_3.length : Int)
set_option maxHeartbeats 8000000 in
set_option maxRecDepth 100000 in
theorem impl_Store_stripes.calls (A0_0 : Option Addr) (c0_0 : Nat) (l0_0 : List ByteArray) (A0_1 : Option Addr) (c0_1 : Nat) (l0_1 : List ByteArray) (A0_2 : Option Addr) (c0_2 : Nat) (l0_2 : List Bool) (A0_3 : Option Addr) (c0_3 : Nat) (l0_3 : List Int) (a0_4 : Int) (a0_5 : Int) (A0_6 : Option Addr) (c0_6 : Nat) (l0_6 : List (List Int)) (A0_7 : Option Addr) (c0_7 : Nat) (l0_7 : List Int) (r : Int) (w : World) (hr0_0 : Kd.C Kd.string w A0_0 l0_0.length l0_0) (hc0_0 : l0_0.length ≤ c0_0) (hr0_1 : Kd.C Kd.string w A0_1 l0_1.length l0_1) (hc0_1 : l0_1.length ≤ c0_1) (hr0_2 : Kd.C Kd.bool w A0_2 l0_2.length l0_2) (hc0_2 : l0_2.length ≤ c0_2) (hr0_3 : Kd.C (Kd.int .i64) w A0_3 l0_3.length l0_3) (hc0_3 : l0_3.length ≤ c0_3) (hr0_6 : Kd.C (Kd.slice 3 (Kd.int .i64)) w A0_6 l0_6.length l0_6) (hc0_6 : l0_6.length ≤ c0_6) (hr0_7 : Kd.C (Kd.int .i64) w A0_7 l0_7.length l0_7) (hc0_7 : l0_7.length ≤ c0_7) (h : impl_Store_stripes.f l0_0 l0_1 l0_2 l0_3 a0_4 a0_5 l0_6 l0_7 = some r) :
  Calls Try.prog 68 #[.agg #[.slice A0_0 l0_0.length c0_0, .slice A0_1 l0_1.length c0_1, .slice A0_2 l0_2.length c0_2, .slice A0_3 l0_3.length c0_3, .int .i64 a0_4, .int .i64 a0_5, .slice A0_6 l0_6.length c0_6, .slice A0_7 l0_7.length c0_7]] w fun e w' => e = .returned (.int .i64 r) ∧ Below w.heap.size w w' := by
 have hu55 := Try.underlying55
 have HR0_0 := Aside0.mk hr0_0
 have HC0_0 := Aside0.mk hc0_0
 clear hr0_0 hc0_0
 have HR0_1 := Aside0.mk hr0_1
 have HC0_1 := Aside0.mk hc0_1
 clear hr0_1 hc0_1
 have HR0_2 := Aside0.mk hr0_2
 have HC0_2 := Aside0.mk hc0_2
 clear hr0_2 hc0_2
 have HR0_3 := Aside0.mk hr0_3
 have HC0_3 := Aside0.mk hc0_3
 clear hr0_3 hc0_3
 have HR0_6 := Aside0.mk hr0_6
 have HC0_6 := Aside0.mk hc0_6
 clear hr0_6 hc0_6
 have HR0_7 := Aside0.mk hr0_7
 have HC0_7 := Aside0.mk hc0_7
 clear hr0_7 hc0_7
 have HB := Aside0.mk (Below.refl w.heap.size w)
 have H : (some (l0_3.length : Int)) = some r := h
 clear h
 obtain rfl := Option.some.inj H
 go_enter Try.func68, Try.ntmps68
 go_wp2_with (first | ((with_reducible refine gate_dst (N := 1) rfl ?_); refine box_event ?hg (N := 1) ?hd (cs := #[.slice A0_0 l0_0.length c0_0, .slice A0_1 l0_1.length c0_1, .slice A0_2 l0_2.length c0_2, .slice A0_3 l0_3.length c0_3, .int .i64 a0_4, .int .i64 a0_5, .slice A0_6 l0_6.length c0_6, .slice A0_7 l0_7.length c0_7]) (t := 55) ?hr ?_; (case hd => rfl); (case hg => rfl); (case hr => first | (go_simp; done) | (go_simp; rfl)); intro gb269 hg w2 hbox hb; have BK269 := Aside0.mk (hbox); have GW269 := Aside0.mk ((by rw [hg]; exact (below_size (bB HB)) : w.heap.size ≤ gb269)); have GE269 := Aside0.mk ((by rw [hg]; exact (below_size (bB HB)) : w.heap.size ≤ gb269)); replace HB := Aside0.mk (below_step (bB HB) hb); clear hb hbox hg; have hcz3_0 : w2.cell? ⟨gb269, 0, none⟩ = some (.slice A0_0 l0_0.length c0_0) := (blk_cell BK269.out 0).trans rfl; have hcz3_1 : w2.cell? ⟨gb269, 1, none⟩ = some (.slice A0_1 l0_1.length c0_1) := (blk_cell BK269.out 1).trans rfl; have hcz3_2 : w2.cell? ⟨gb269, 2, none⟩ = some (.slice A0_2 l0_2.length c0_2) := (blk_cell BK269.out 2).trans rfl; have hcz3_3 : w2.cell? ⟨gb269, 3, none⟩ = some (.slice A0_3 l0_3.length c0_3) := (blk_cell BK269.out 3).trans rfl; have hcz3_4 : w2.cell? ⟨gb269, 4, none⟩ = some (.int .i64 a0_4) := (blk_cell BK269.out 4).trans rfl; have hcz3_5 : w2.cell? ⟨gb269, 5, none⟩ = some (.int .i64 a0_5) := (blk_cell BK269.out 5).trans rfl; have hcz3_6 : w2.cell? ⟨gb269, 6, none⟩ = some (.slice A0_6 l0_6.length c0_6) := (blk_cell BK269.out 6).trans rfl; have hcz3_7 : w2.cell? ⟨gb269, 7, none⟩ = some (.slice A0_7 l0_7.length c0_7) := (blk_cell BK269.out 7).trans rfl; have hfz3_0 := blk_frozen BK269.out 0; have hfz3_1 := blk_frozen BK269.out 1; have hfz3_2 := blk_frozen BK269.out 2; have hfz3_3 := blk_frozen BK269.out 3; have hfz3_4 := blk_frozen BK269.out 4; have hfz3_5 := blk_frozen BK269.out 5; have hfz3_6 := blk_frozen BK269.out 6; have hfz3_7 := blk_frozen BK269.out 7))
 go_ret
 exact ⟨by first | rfl | (simp [errW_none, errW_some] <;> rfl) | (simp [*, errW_none, errW_some] <;> rfl), bB HB⟩

/-! ### slices_Max_int_int: function 69 -/
def slices_Max_int_int.l0 : Nat → List Int → Int → Int → Option (Int)
 | 0, _, _, _ => none
 | k + 1, x0, x3, x4 => if x4 < (x0.length : Int) then (if 0 ≤ x4 then (slices_Max_int_int.l0 k x0 (mx x3 (rd x0 x4)) (wrap64 (x4 + 1))) else (none)) else (some x3)
def slices_Max_int_int.f (k : Nat) (l0 : List Int) : Option (Int) := if (l0.length : Int) < 1 then (none) else (if 0 < (l0.length : Int) then (slices_Max_int_int.l0 k l0 (rd l0 0) 1) else (none))
theorem slices_Max_int_int.mono_l : ∀ k, (∀ y0 y1 y2, LeO (slices_Max_int_int.l0 k y0 y1 y2) (slices_Max_int_int.l0 (k + 1) y0 y1 y2))
 | 0 => fun _ _ _ r h => by simp [slices_Max_int_int.l0] at h
 | k + 1 => by
  have ih0 := slices_Max_int_int.mono_l k
  ·intro y0 y1 y2
   unfold slices_Max_int_int.l0
   repeat' first
   | (with_reducible exact ih0 _ _ _)
   | (with_reducible exact LeO.refl _)
   | (with_reducible exact LeO.none _)
   | (with_reducible refine LeO.ite ?_ ?_)
   | (with_reducible refine LeO.bind ?_ (fun _ => ?_))
   | exact ih0 _ _ _
   | exact LeO.none _
   | refine LeO.ite ?_ ?_
   | refine LeO.bind ?_ (fun _ => ?_)
theorem slices_Max_int_int.mono : ∀ a0 k, LeO (slices_Max_int_int.f k a0) (slices_Max_int_int.f (k + 1) a0) := by
 intro a0 k
 have ih0 := slices_Max_int_int.mono_l k
 unfold slices_Max_int_int.f
 repeat' first
   | (with_reducible exact ih0 _ _ _)
   | (with_reducible exact LeO.refl _)
   | (with_reducible exact LeO.none _)
   | (with_reducible refine LeO.ite ?_ ?_)
   | (with_reducible refine LeO.bind ?_ (fun _ => ?_))
   | exact ih0 _ _ _
   | exact LeO.none _
   | refine LeO.ite ?_ ?_
   | refine LeO.bind ?_ (fun _ => ?_)
set_option maxHeartbeats 8000000 in
set_option maxRecDepth 100000 in
theorem slices_Max_int_int.calls (k : Nat) (A0 : Option Addr) (c0 : Nat) (l0 : List Int) (r : Int) (w : World) (hr0 : Kd.C (Kd.int .i64) w A0 l0.length l0) (hc0 : l0.length ≤ c0) (h : slices_Max_int_int.f k l0 = some r) :
  Calls Try.prog 69 #[.slice A0 l0.length c0] w fun e w' => e = .returned (.int .i64 r) ∧ Below w.heap.size w w' := by
 have HR0 := Aside0.mk hr0
 have HC0 := Aside0.mk hc0
 clear hr0 hc0
 have HB := Aside0.mk (Below.refl w.heap.size w)
 have H : (if (l0.length : Int) < 1 then (none) else (if 0 < (l0.length : Int) then (slices_Max_int_int.l0 k l0 (rd l0 0) 1) else (none))) = some r := h
 clear h
 by_cases c2 : (l0.length : Int) < 1
 ·rw [if_pos c2] at H
  exact absurd H (by simp)
 ·rw [if_neg c2] at H
  have c2b0 : decide ((l0.length : Int) < 1) = false := decide_eq_false c2
  have c2b1 : decide (l0.length < 1) = false := decide_eq_false (by omega)
  clear c2
  by_cases c3 : 0 < (l0.length : Int)
  ·rw [if_pos c3] at H
   have c3b0 : decide (0 < (l0.length : Int)) = true := decide_eq_true c3
   have c3b1 : decide (0 < l0.length) = true := decide_eq_true (by omega)
   clear c3
   have H' := Aside0.mk H
   clear H
   have p270 : 0 ≤ (0 : Int) := (by omega)
   have q270 : 0 < (l0.length : Int) := of_decide_eq_true (by first | (with_reducible assumption) | assumption)
   obtain ⟨ad270, e270, hx270_0⟩ := Kd.at_int HR0.out 0 p270 q270
   cases e270
   have qi270 : (0 < l0.length) = True := eq_true (by omega)
   (try rw [show ((0 : Int)).toNat = 0 from rfl] at hx270_0)
   (try rw [Addr.add_zero'] at hx270_0)
   replace p270 := eq_true p270
   replace q270 := eq_true q270
   go_enter Try.func69, Try.ntmps69
   go_wp2
   go_loopg [3, 4] k (fun kq v3 v4 w' => ∃ (x3_1 : Int) (x4_1 : Int), v3 = .int .i64 x3_1 ∧ v4 = .int .i64 x4_1 ∧ Aside0 (slices_Max_int_int.l0 kq l0 x3_1 x4_1 = some r) ∧ Aside0 (kq ≤ k) ∧ Aside0 (Below w.heap.size w w'))
   case atStart => exact ⟨(rd l0 0), (1), (by first | rfl | (simp; done) | (simp [*]; done)), (by first | rfl | (simp; done) | (simp [*]; done)), H', ⟨Nat.le_refl _⟩, ⟨bB HB⟩⟩
   case round =>
    clear H'
    try clear c2
    try clear c2b0
    try clear c2b1
    try clear p2
    try clear q2
    try clear hx2
    try clear qi2
    try clear c3
    try clear c3b0
    try clear c3b1
    try clear hx270_0
    try clear p270
    try clear q270
    obtain ⟨x3_1, x4_1, rfl, rfl, HA, HK1, HB⟩ := hrel
    cases gk with
    | zero => exact absurd HA.out (by simp [slices_Max_int_int.l0])
    | succ k1 =>
     have H := HA.out
     clear HA
     simp only [slices_Max_int_int.l0] at H
     by_cases c4 : x4_1 < (l0.length : Int)
     ·rw [if_pos c4] at H
      have c4b0 : decide (x4_1 < (l0.length : Int)) = true := decide_eq_true c4
      clear c4
      by_cases c5 : 0 ≤ x4_1
      ·rw [if_pos c5] at H
       have c5b0 : decide (0 ≤ x4_1) = true := decide_eq_true c5
       clear c5
       obtain ⟨ji6, hji6⟩ : ∃ j_ : Int, (mx x3_1 (rd l0 x4_1)) = j_ := ⟨_, rfl⟩
       replace H : (slices_Max_int_int.l0 k1 l0 ji6 (wrap64 (x4_1 + 1))) = some r := by first | (rw [hji6] at H; exact H) | (simp only [hji6] at H ⊢; exact H)
       have hji6_ : (if x3_1 < (rd l0 x4_1) then (rd l0 x4_1) else x3_1) = ji6 := hji6
       have H' := Aside0.mk H
       clear H
       have p271 : 0 ≤ (x4_1 : Int) := of_decide_eq_true (by first | (with_reducible assumption) | assumption)
       have q271 : x4_1 < (l0.length : Int) := of_decide_eq_true (by first | (with_reducible assumption) | assumption)
       obtain ⟨ad271, e271, hx271_0⟩ := Kd.at_int HR0.out x4_1 p271 q271
       obtain rfl : ad270 = ad271 := (by injection e271)
       replace hx271_0 := (HB.out.cell (World.block_lt_of_cell? w _ hx271_0)).trans hx271_0
       replace p271 := eq_true p271
       replace q271 := eq_true q271
       go_wp2
       go_roundg k1
       case measure => have := HK1.out; omega
       case rel => exact ⟨(ji6), (wrap64 (x4_1 + 1)), (by first | rfl | (simp; done) | (simp only [← hji6] <;> (first | rfl | simp)) | (simp [*]; done)), (by first | rfl | (simp; done) | (simp [*]; done)), H', ⟨by have := HK1.out; omega⟩, ⟨bB HB⟩⟩
      ·rw [if_neg c5] at H
       exact absurd H (by simp)
     ·rw [if_neg c4] at H
      have c4b0 : decide (x4_1 < (l0.length : Int)) = false := decide_eq_false c4
      clear c4
      obtain rfl := Option.some.inj H
      go_wp2
      go_ret
      exact ⟨by first | rfl | (simp [errW_none, errW_some] <;> rfl) | (simp [*, errW_none, errW_some] <;> rfl), bB HB⟩
  ·rw [if_neg c3] at H
   exact absurd H (by simp)

/-! ### slices_ContainsFunc_int_int_70: function 70 -/
/-- Whether a row of a store's volumes is as it must be. -/
def slices_ContainsFunc_int_int_70.ok (n : Nat) (r : List Int) : Bool := decide (r.length = 5) && r.all fun x => decide (0 ≤ x ∧ x ≤ (n : Int))
def slices_ContainsFunc_int_int_70.f (l0 : List (List Int)) (n : Nat) : Option Bool := if l0.length ≤ 1048576 ∧ ∀ r ∈ l0, r.length ≤ 1048576 then some (l0.any fun r => !(slices_ContainsFunc_int_int_70.ok n r)) else none
set_option maxRecDepth 100000 in
set_option maxHeartbeats 1000000 in
theorem slices_ContainsFunc_int_int_70.stripes (A0 A1 A2 A3 A6 A7 : Option Addr) (n0 c0 n1 c1 n2 c2 n3 c3 n6 c6 n7 c7 : Nat) (x4 x5 : Int) (W : World) :
  Calls Try.prog 68 #[.agg #[.slice A0 n0 c0, .slice A1 n1 c1, .slice A2 n2 c2, .slice A3 n3 c3, .int .i64 x4, .int .i64 x5, .slice A6 n6 c6, .slice A7 n7 c7]] W fun e w' => e = .returned (.int .i64 (n3 : Int)) ∧ Below W.heap.size W w' := by
 have hu55 := Try.underlying55
 go_enter Try.func68, Try.ntmps68
 go_wp2_with (first | ((with_reducible refine gate_dst (N := 1) rfl ?_); refine box_event ?hg (N := 1) ?hd (cs := #[.slice A0 n0 c0, .slice A1 n1 c1, .slice A2 n2 c2, .slice A3 n3 c3, .int .i64 x4, .int .i64 x5, .slice A6 n6 c6, .slice A7 n7 c7]) (t := 55) ?hr ?_; (case hd => rfl); (case hg => rfl); (case hr => first | (go_simp; done) | (go_simp; rfl)); intro gb hg w2 hbox hb; have BK := Aside0.mk hbox; clear hbox hg; have hcz0 : w2.cell? ⟨gb, 0, none⟩ = some (.slice A0 n0 c0) := (blk_cell BK.out 0).trans rfl; have hcz1 : w2.cell? ⟨gb, 1, none⟩ = some (.slice A1 n1 c1) := (blk_cell BK.out 1).trans rfl; have hcz2 : w2.cell? ⟨gb, 2, none⟩ = some (.slice A2 n2 c2) := (blk_cell BK.out 2).trans rfl; have hcz3 : w2.cell? ⟨gb, 3, none⟩ = some (.slice A3 n3 c3) := (blk_cell BK.out 3).trans rfl; have hcz4 : w2.cell? ⟨gb, 4, none⟩ = some (.int .i64 x4) := (blk_cell BK.out 4).trans rfl; have hcz5 : w2.cell? ⟨gb, 5, none⟩ = some (.int .i64 x5) := (blk_cell BK.out 5).trans rfl; have hcz6 : w2.cell? ⟨gb, 6, none⟩ = some (.slice A6 n6 c6) := (blk_cell BK.out 6).trans rfl; have hcz7 : w2.cell? ⟨gb, 7, none⟩ = some (.slice A7 n7 c7) := (blk_cell BK.out 7).trans rfl))
 go_ret
 exact ⟨rfl, hb⟩
theorem slices_ContainsFunc_int_int_70.win (x : Int) (a b : Int) : impl_within.f x a b = some (decide (a ≤ x ∧ x ≤ b)) := by
 unfold impl_within.f
 by_cases h : x ≥ a
 ·rw [if_pos h]
  simp [show a ≤ x from h]
 ·rw [if_neg h]
  simp only [show ¬ a ≤ x from h, false_and, decide_false]
set_option maxRecDepth 100000 in
set_option maxHeartbeats 1000000 in
theorem slices_ContainsFunc_int_int_70.in2 {A0 A1 A2 A3 A6 A7 : Option Addr} {n0 c0 n1 c1 n2 c2 n3 c3 n6 c6 n7 c7 : Nat} {x4 x5 : Int} (W : World) (gb : Nat) (hb : W.heap[gb]? = some (.cells #[.slice A0 n0 c0, .slice A1 n1 c1, .slice A2 n2 c2, .slice A3 n3 c3, .int .i64 x4, .int .i64 x5, .slice A6 n6 c6, .slice A7 n7 c7] 55 (0, 0))) (x : Int) :
  Calls Try.prog 72 #[.int .i64 x, .pointer (some ⟨gb, 0, none⟩)] W fun e w' => e = .returned (.bool (!(decide (0 ≤ x ∧ x ≤ (n3 : Int))))) ∧ Below W.heap.size W w' := by
 have hu55 := Try.underlying55
 have hw := slices_ContainsFunc_int_int_70.win x 0 (n3 : Int)
 generalize decide (0 ≤ x ∧ x ≤ (n3 : Int)) = b at hw ⊢
 have hcz0 : W.cell? ⟨gb, 0, none⟩ = some (.slice A0 n0 c0) := (blk_cell hb 0).trans rfl
 have hcz1 : W.cell? ⟨gb, 1, none⟩ = some (.slice A1 n1 c1) := (blk_cell hb 1).trans rfl
 have hcz2 : W.cell? ⟨gb, 2, none⟩ = some (.slice A2 n2 c2) := (blk_cell hb 2).trans rfl
 have hcz3 : W.cell? ⟨gb, 3, none⟩ = some (.slice A3 n3 c3) := (blk_cell hb 3).trans rfl
 have hcz4 : W.cell? ⟨gb, 4, none⟩ = some (.int .i64 x4) := (blk_cell hb 4).trans rfl
 have hcz5 : W.cell? ⟨gb, 5, none⟩ = some (.int .i64 x5) := (blk_cell hb 5).trans rfl
 have hcz6 : W.cell? ⟨gb, 6, none⟩ = some (.slice A6 n6 c6) := (blk_cell hb 6).trans rfl
 have hcz7 : W.cell? ⟨gb, 7, none⟩ = some (.slice A7 n7 c7) := (blk_cell hb 7).trans rfl
 go_enter Try.func72, Try.ntmps72
 go_wp2_with (first | (go_at_call 68; (refine (slices_ContainsFunc_int_int_70.stripes A0 A1 A2 A3 A6 A7 n0 c0 n1 c1 n2 c2 n3 c3 n6 c6 n7 c7 x4 x5 _).mono ?_); rintro e w1 ⟨rfl, hb1⟩) | (go_at_call 46; (refine (impl_within.calls x 0 (n3 : Int) b _ hw).mono ?_); rintro e w' ⟨rfl, ⟨nd, rfl⟩⟩))
 go_ret
 exact ⟨rfl, by repeat (first | (with_reducible first | exact hb1 | apply below_alloc | apply pw_below_drewN | apply below_drew1) | exact hb1)⟩
theorem slices_ContainsFunc_int_int_70.all_some (n : Nat) (row : List Int) : ∀ m, m ≤ row.length → Find0.some' (fun i => !(decide (0 ≤ rd row i ∧ rd row i ≤ (n : Int)))) m = !((row.take m).all fun x => decide (0 ≤ x ∧ x ≤ (n : Int))) := by
 intro m
 induction m with
 | zero => intro _; rfl
 | succ m ih =>
  intro hm
  rw [Find0.some', ih (by omega), List.take_succ_eq_append_getElem (by omega), List.all_append, Bool.not_and]
  have e : rd row (m : Int) = row[m] := by
   unfold rd
   simp [show m < row.length by omega]
  simp only [e, List.all_cons, List.all_nil, Bool.and_true]
set_option maxRecDepth 100000 in
set_option maxHeartbeats 1000000 in
theorem slices_ContainsFunc_int_int_70.in1 {A0 A1 A2 A3 A6 A7 : Option Addr} {n0 c0 n1 c1 n2 c2 n3 c3 n6 c6 n7 c7 : Nat} {x4 x5 : Int} (W : World) (gb : Nat) (hb : W.heap[gb]? = some (.cells #[.slice A0 n0 c0, .slice A1 n1 c1, .slice A2 n2 c2, .slice A3 n3 c3, .int .i64 x4, .int .i64 x5, .slice A6 n6 c6, .slice A7 n7 c7] 55 (0, 0))) (Ai : Option Addr) (ci : Nat) (row : List Int) (hrow : Kd.C (Kd.int .i64) W Ai row.length row) (hl : row.length ≤ 1048576) :
  Calls Try.prog 71 #[.slice Ai row.length ci, .pointer (some ⟨gb, 0, none⟩)] W fun e w' => e = .returned (.bool (!(slices_ContainsFunc_int_int_70.ok n3 row))) ∧ Below W.heap.size W w' := by
 unfold slices_ContainsFunc_int_int_70.ok
 have hcall := fun lb => Find0.con48 72 #[.pointer (some ⟨gb, 0, none⟩)] (enters_of Try.func72 (by kernel_rfl) rfl) Ai row.length lb (fun i => .int .i64 (rd row i)) (fun i => !(decide (0 ≤ rd row i ∧ rd row i ≤ (n3 : Int)))) W (by omega) (fun W' i hi hB => slices_ContainsFunc_int_int_70.in2 W' gb (blk_below hb hB) (rd row i)) (fun W' i hi hB => by
  obtain ⟨ad, e, hx⟩ := Kd.at_int (Kd.C_below hrow hB) (i : Int) (by omega) (by omega)
  exact ⟨ad, e, hx⟩)
 rw [slices_ContainsFunc_int_int_70.all_some n3 row row.length (Nat.le_refl _), List.take_of_length_le (Nat.le_refl _)] at hcall
 generalize (row.all fun x => decide (0 ≤ x ∧ x ≤ (n3 : Int))) = b at hcall ⊢
 have HC := Aside0.mk hcall
 clear hcall hb hrow
 go_enter Try.func71, Try.ntmps71
 by_cases h5 : row.length = 5
 ·have hd : decide (row.length = 5) = true := decide_eq_true h5
  have hd2 : decide ((row.length : Int) = 5) = true := decide_eq_true (by omega)
  have hd3 : ((row.length : Int) == 5) = true := by rw [beq_iff_eq]; omega
  have hd4 : ((row.length : Int) != 5) = false := by rw [bne_eq_false_iff_eq]; omega
  have H5 := Aside0.mk h5
  clear h5 hd hl
  go_wp2_with (first | (go_at_call 48; refine ((HC.out) _).mono ?_; rintro e w' ⟨rfl, hb⟩))
  go_ret
  exact ⟨by simp [H5.out], hb⟩
 ·have hd : decide (row.length = 5) = false := decide_eq_false h5
  have hd2 : decide ((row.length : Int) = 5) = false := decide_eq_false (by omega)
  have hd3 : ((row.length : Int) == 5) = false := by rw [beq_eq_false_iff_ne]; omega
  have hd4 : ((row.length : Int) != 5) = true := by rw [bne_iff_ne]; omega
  have H5 := Aside0.mk h5
  clear h5 hd hl
  go_wp2
  go_ret
  exact ⟨by simp [H5.out], Below.refl _ _⟩
theorem slices_ContainsFunc_int_int_70.any_some (n : Nat) (l : List (List Int)) : ∀ m, m ≤ l.length → Find0.some' (fun i => !(slices_ContainsFunc_int_int_70.ok n (rd_L3 l i))) m = (l.take m).any fun r => !(slices_ContainsFunc_int_int_70.ok n r) := by
 intro m
 induction m with
 | zero => intro _; rfl
 | succ m ih =>
  intro hm
  rw [Find0.some', ih (by omega), List.take_succ_eq_append_getElem (by omega), List.any_append]
  have e : rd_L3 l (m : Int) = l[m] := by
   unfold rd_L3
   simp [show m < l.length by omega]
  simp only [e, List.any_cons, List.any_nil, Bool.or_false]
set_option maxRecDepth 100000 in
set_option maxHeartbeats 1000000 in
theorem slices_ContainsFunc_int_int_70.calls {A0 A1 A2 A3 A6 A7 : Option Addr} {n0 c0 n1 c1 n2 c2 n3 c3 n6 c6 n7 c7 : Nat} {x4 x5 : Int} (A0_ : Option Addr) (c0_ : Nat) (l0 : List (List Int)) (r : Bool) (w : World) (gb : Nat) (hr0 : Kd.C (Kd.slice 3 (Kd.int .i64)) w A0_ l0.length l0) (hc0 : l0.length ≤ c0_) (hbox : w.heap[gb]? = some (.cells #[.slice A0 n0 c0, .slice A1 n1 c1, .slice A2 n2 c2, .slice A3 n3 c3, .int .i64 x4, .int .i64 x5, .slice A6 n6 c6, .slice A7 n7 c7] 55 (0, 0))) (h : slices_ContainsFunc_int_int_70.f l0 n3 = some r) :
  Calls Try.prog 70 #[.slice A0_ l0.length c0_, .func (.func 71) #[] #[.pointer (some ⟨gb, 0, none⟩)]] w fun e w' => e = .returned (.bool r) ∧ Below w.heap.size w w' := by
 unfold slices_ContainsFunc_int_int_70.f at h
 split at h
 ·rename_i hl
  obtain rfl := Option.some.inj h
  have hval : ∃ val : Nat → Value, ∀ i, i < l0.length → ∃ ad Ai ci, A0_ = some ad ∧ w.cell? (ad.add i) = some (val i) ∧ val i = .slice Ai (rd_L3 l0 i).length ci ∧ (Kd.int .i64).C w Ai (rd_L3 l0 i).length (rd_L3 l0 i) := by
   refine ⟨fun i => match A0_ with | none => .slice none 0 0 | some ad => (w.cell? (ad.add i)).getD (.slice none 0 0), fun i hi => ?_⟩
   obtain ⟨ad, Ai, ci, e, hx, _, hrow⟩ := at_L3 hr0 (i : Int) (by omega) (by omega)
   subst e
   have hx' : w.cell? (ad.add i) = some (.slice Ai (rd_L3 l0 i).length ci) := hx
   exact ⟨ad, Ai, ci, rfl, by show w.cell? (ad.add i) = some ((w.cell? (ad.add i)).getD (.slice none 0 0)); rw [hx']; rfl, by show (w.cell? (ad.add i)).getD (.slice none 0 0) = _; rw [hx']; rfl, hrow⟩
  obtain ⟨val, hval⟩ := hval
  have hcall := Find0.con70 71 #[.pointer (some ⟨gb, 0, none⟩)] (enters_of Try.func71 (by kernel_rfl) rfl) A0_ l0.length c0_ val (fun i => !(slices_ContainsFunc_int_int_70.ok n3 (rd_L3 l0 i))) w (by omega) (fun W i hi hB => by
   obtain ⟨ad, Ai, ci, e, hx, hv, hrow⟩ := hval i hi
   rw [hv]
   refine slices_ContainsFunc_int_int_70.in1 W gb (blk_below hbox hB) Ai ci (rd_L3 l0 i) (Kd.C_below hrow hB) ?_
   have e : rd_L3 l0 (i : Int) = l0[i] := by
    unfold rd_L3
    simp [hi]
   rw [e]
   exact hl.2 _ (List.getElem_mem _)) (fun W i hi hB => by
   obtain ⟨ad, Ai, ci, e, hx, hv, hrow⟩ := hval i hi
   obtain ⟨ad', Ai', ci', e', hx', _, _⟩ := at_L3 (Kd.C_below hr0 hB) (i : Int) (by omega) (by omega)
   obtain ⟨ad2, Ai2, ci2, e2, hx2, _, _⟩ := at_L3 hr0 (i : Int) (by omega) (by omega)
   refine ⟨ad, e, ?_⟩
   exact pw_cell_below hB hx)
  rw [slices_ContainsFunc_int_int_70.any_some n3 l0 l0.length (Nat.le_refl _), List.take_of_length_le (Nat.le_refl _)] at hcall
  exact hcall
 ·cases h

end Go.Proofs.Ytgnijlfakjjfcaa.XFnExactUsesIn
