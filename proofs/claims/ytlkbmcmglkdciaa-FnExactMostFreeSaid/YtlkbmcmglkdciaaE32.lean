/- A function that the executor carries out holds as it tells. No condition. -/
import Derived.Test.YtlkbmcmglkdciaaE31
set_option linter.unusedVariables false
set_option linter.unusedSectionVars false
set_option linter.unusedSimpArgs false
namespace Go.Proofs.YtlkbmcmglkdciaaE
open Go Go.RowKit
open Classical

/-- The results' own reading. -/
def resOf (tmps : Array Value) : ResultVar → Sem Value
  | .tmp t => pure (tmps.getD t undef)
  | .cell a t => do loadVar t (← asAddr (tmps.getD a undef))
inductive Runs (P : Program) (w : World) (f : ResultVar → Sem Value) : List ResultVar → List Value → Prop where
  | nil : Runs P w f [] []
  | cons {x : ResultVar} {v : Value} {l : List ResultVar} {vs : List Value} (h : (f x).run P w = .ok v w) (t : Runs P w f l vs) : Runs P w f (x :: l) (v :: vs)
theorem run_list {P : Program} {w : World} {f : ResultVar → Sem Value} : ∀ {l : List ResultVar} {vs : List Value}, Runs P w f l vs → (l.mapM f).run P w = .ok vs w
  | [], _, h => by cases h; rfl
  | x :: l, _, h => by
    cases h with
    | cons h1 h2 =>
      rw [List.mapM_cons, run_then h1, run_then (run_list h2)]
      rfl
theorem results_run {P : Program} {w : World} {fn : Func} {tmps : Array Value} {vs : List Value} (h : Runs P w (resOf tmps) fn.results.toList vs) :
    (results fn tmps).run P w = .ok (if h : vs.length = 1 then vs[0] else .tuple vs.toArray) w := by
  unfold results
  change (fn.results.mapM (resOf tmps) >>= fun vs => pure (if h : vs.size = 1 then vs[0] else .tuple vs)).run P w = _
  rw [Array.mapM_eq_mapM_toList]
  have h2 : (List.toArray <$> fn.results.toList.mapM (resOf tmps)).run P w = .ok vs.toArray w := by
    rw [map_eq_pure_bind, run_then (run_list h)]; rfl
  rw [run_then h2]
  simp only [List.size_toArray]
  by_cases hl : vs.length = 1
  · rw [dif_pos (by simpa using hl), dif_pos hl]; simp [pure, Sem.run]
  · rw [dif_neg (by simpa using hl), dif_neg hl]; rfl

section
variable {own0 : Own} {w0 : World} {st : St} {a : Act} {w : World} {β : Bs} {col : Col} {P : Program}
theorem resVs_ok (S : Sat own0 w0 st a w β col) : ∀ {l : List ResultVar} {as : List AV}, resVs P st l = some as → ∃ vs, Runs P w (resOf a.tmps) l vs ∧ vrels st.heap β col w as vs
  | [], as, h => by cases h; exact ⟨[], .nil, trivial⟩
  | .tmp t :: l, as, h => by
    simp only [resVs] at h
    have fin : ∀ vs, resVs P st l = some vs → as = lk st.env t :: vs → ∃ vs, Runs P w (resOf a.tmps) (.tmp t :: l) vs ∧ vrels st.heap β col w as vs := by
      rintro vs h1 rfl
      obtain ⟨xs, i1, i2⟩ := resVs_ok S h1
      exact ⟨_ :: xs, .cons rfl i1, S.env t, i2⟩
    split at h
    · cases h
    · exact fin _ ‹resVs P st l = some _› (by cases h; rfl)
    · cases h
  | .cell b t :: l, as, h => by
    simp only [resVs] at h
    split at h
    · rename_i v st' vs h1 h2
      cases h
      obtain ⟨xs, i1, i2⟩ := resVs_ok S h2
      obtain ⟨_, r, h3, h4⟩ := load_ok S (S.env b) h1
      have hp : ∃ A, a.tmps.getD b undef = .pointer (some A) := by
        unfold stLoad at h1
        split at h1
        · rename_i us hr
          obtain ⟨g, o, cs, e, fz, h, _⟩ := rest_ok S (S.env b) hr
          exact ⟨_, h⟩
        · cases h1
      obtain ⟨A, hA⟩ := hp
      refine ⟨r :: xs, .cons ?_ i1, h4, i2⟩
      rw [hA] at h3
      have he : resOf a.tmps (.cell b t) = (do loadVar t (← asAddr (a.tmps.getD b undef))) := rfl
      rw [he, hA]
      exact h3 w (Below.refl _ _)
    · cases h

theorem pack_is {h : List Root} {l : List AV} {vs : List Value} (hv : vrels h β col w l vs) : vrel h β col w (packR l) (if h : vs.length = 1 then vs[0] else .tuple vs.toArray) := by
  match l, vs, hv with
  | [], [], _ => exact ⟨#[], rfl, trivial⟩
  | [x], [v], hv => exact hv.1
  | x :: y :: l, v :: u :: vs, hv => 
    rw [dif_neg (by simp)]
    exact ⟨_, rfl, hv⟩

theorem enum_lk : ∀ {l : List AV} {vs : List Value} {i : Nat} {h : List Root}, vrels h β col w l vs → ∀ t, lk (enumE i l) t = .undef ∨ ∃ v, i ≤ t ∧ vs[t - i]? = some v ∧ vrel h β col w (lk (enumE i l) t) v
  | [], vs, i, h, hv, t => .inl rfl
  | x :: l, [], i, h, hv, t => hv.elim
  | x :: l, v :: vs, i, h, hv, t => by
    simp only [enumE]
    rw [lk_cons]
    split
    · rename_i e; subst e
      exact .inr ⟨v, Nat.le_refl _, by simp, hv.1⟩
    · rename_i e
      rcases enum_lk hv.2 t (i := i + 1) with h1 | ⟨u, h1, h2, h3⟩
      · exact .inl h1
      · refine .inr ⟨u, by omega, ?_, h3⟩
        rw [show t - i = (t - (i + 1)) + 1 by omega]; simpa using h2
end

/-- The state that a call begins with. -/
theorem start_ok {fn : Func} {gr : List Grp} {ms : List Mode} {ts : List AV} {args : Array Value} {w : World} {β : Bs} {col : Col}
    (h1 : vrels (heapC ms ts) β col w (group gr (enterV ms ts 1 (nfC ms ts))) args.toList)
    (h2 : ∀ n r, getN (heapC ms ts) n = some r → rootRel (heapC ms ts) β col w n r) (h3 : ∀ g, col g ≠ none → g < w.heap.size) :
    Sat (ownOf (heapC ms ts) (nfC ms ts) β col) w (startX fn gr ms ts) { tmps := args ++ Array.replicate (fn.ntmps - args.size) undef, defers := [] } w β col := by
  refine ⟨fun t => ?_, h2, ?_, rfl, ⟨rfl, rfl, rfl, Nat.le_refl _, fun _ _ _ => rfl⟩, fun b hb => ⟨?_, h3 b hb⟩, rfl, fun g hg hc => ?_, fun n b r h => ?_⟩
  · show vrel (heapC ms ts) β col w (lk (enumE 0 _) t) _
    rcases enum_lk h1 t (i := 0) with h | ⟨v, _, h, hv⟩
    · rw [h]; trivial
    · rw [Nat.sub_zero, Array.getElem?_toList] at h
      have hlt := (Array.getElem?_eq_some_iff.1 h).1
      rw [Array.getD_eq_getD_getElem?, Array.getElem?_append_left hlt, h]
      exact hv
  · show (args ++ Array.replicate (fn.ntmps - args.size) undef).size = lenN (group gr (enterV ms ts 1 (nfC ms ts))) + (fn.ntmps - lenN (group gr (enterV ms ts 1 (nfC ms ts))))
    have hl : args.size = (group gr (enterV ms ts 1 (nfC ms ts))).length := by rw [vrels_len h1, Array.length_toList]
    rw [lenN_eq]; simp [hl]
  · show (∃ x, col b = some (0, x)) ∨ _ ∨ (match col b with | none => 0 | some (0, _) => 2 | some (_ + 1, _) => 1) = 1
    split
    · rename_i h; exact absurd h hb
    · rename_i x h; exact .inl ⟨x, h⟩
    · exact .inr (.inr rfl)
  · show (match col g with | none => 0 | some (0, _) => 2 | some (_ + 1, _) => 1) = 0
    rw [hc]
  · have h : (if n < nfC ms ts then (getN (heapC ms ts) n).map fun r => (β n, r) else none) = some (b, r) := h
    split at h
    · rename_i hn
      cases hg : getN (heapC ms ts) n with
      | none => rw [hg] at h; cases h
      | some r0 => rw [hg] at h; cases h; exact ⟨hn, rfl, _, hg, Shape.refl _⟩
    · cases h

/-! ### Results given as rows by value -/
section
variable {own0 : Own} {w0 : World} {st : St} {a : Act} {w : World} {β : Bs} {col col' : Col} {h h' : List Root} {g : AV → AV} {Pn : Nat → Prop}
theorem thawC_ok (hg : ∀ a v, vrel h β col w a v → vrel h' β col' w (g a) v)
    (hrow : ∀ a v s, vrel h β col w a v → readSl h a = some s → (∀ n ∈ looks a, Pn n) → rep w (zone col') (.sl s.e s.k) s.xs [v])
    (c : CSh) (x : AV) (v : Value) (hk : ∀ n ∈ killC c x, Pn n) (hv : vrel h β col w x v) : vrel h' β col' w (thawC h g c x) v := by
  cases c <;> simp only [thawC] <;> first | exact hg _ _ hv | skip
  split
  · rename_i s hs
    exact hrow _ _ s hv hs hk
  · exact hg _ _ hv
theorem mapg_ok (hg : ∀ a v, vrel h β col w a v → vrel h' β col' w (g a) v) : ∀ (xs : List AV) (vs : List Value), vrels h β col w xs vs → vrels h' β col' w (xs.map g) vs
  | [], [], _ => trivial
  | x :: xs, v :: vs, hv => ⟨hg _ _ hv.1, mapg_ok hg xs vs hv.2⟩
  | [], _ :: _, hv => hv.elim
  | _ :: _, [], hv => hv.elim
theorem thawCs_ok (hg : ∀ a v, vrel h β col w a v → vrel h' β col' w (g a) v)
    (hrow : ∀ a v s, vrel h β col w a v → readSl h a = some s → (∀ n ∈ looks a, Pn n) → rep w (zone col') (.sl s.e s.k) s.xs [v]) :
    ∀ (cs : List CSh) (xs : List AV) (vs : List Value), (∀ n ∈ killCs cs xs, Pn n) → vrels h β col w xs vs → vrels h' β col' w (thawCs h g cs xs) vs
  | [], xs, vs, _, hv => by cases xs <;> exact mapg_ok hg _ _ hv
  | _ :: _, [], vs, _, hv => mapg_ok hg _ _ hv
  | _ :: _, _ :: _, [], _, hv => hv.elim
  | c :: cs, x :: xs, v :: vs, hk, hv => ⟨thawC_ok hg hrow c x v (fun n hn => hk n (List.mem_append.2 (.inl hn))) hv.1, thawCs_ok hg hrow cs xs vs (fun n hn => hk n (List.mem_append.2 (.inr hn))) hv.2⟩
theorem thawS_ok (hg : ∀ a v, vrel h β col w a v → vrel h' β col' w (g a) v)
    (hrow : ∀ a v s, vrel h β col w a v → readSl h a = some s → (∀ n ∈ looks a, Pn n) → rep w (zone col') (.sl s.e s.k) s.xs [v])
    (c : Sh) (x : AV) (v : Value) (hk : ∀ n ∈ killS c x, Pn n) (hv : vrel h β col w x v) : vrel h' β col' w (thawS h g c x) v := by
  cases c with
  | one c => exact thawC_ok hg hrow c x v hk hv
  | agg l =>
    cases x <;> first
      | exact hg _ _ hv
      | (obtain ⟨cs, rfl, hv⟩ := hv
         exact ⟨cs, rfl, thawCs_ok hg hrow l _ _ hk hv⟩)
theorem thawSs_ok (hg : ∀ a v, vrel h β col w a v → vrel h' β col' w (g a) v)
    (hrow : ∀ a v s, vrel h β col w a v → readSl h a = some s → (∀ n ∈ looks a, Pn n) → rep w (zone col') (.sl s.e s.k) s.xs [v]) :
    ∀ (cs : List Sh) (xs : List AV) (vs : List Value), (∀ n ∈ killSs cs xs, Pn n) → vrels h β col w xs vs → vrels h' β col' w (thawSs h g cs xs) vs
  | [], xs, vs, _, hv => by cases xs <;> exact mapg_ok hg _ _ hv
  | _ :: _, [], vs, _, hv => mapg_ok hg _ _ hv
  | _ :: _, _ :: _, [], _, hv => hv.elim
  | c :: cs, x :: xs, v :: vs, hk, hv => ⟨thawS_ok hg hrow c x v (fun n hn => hk n (List.mem_append.2 (.inl hn))) hv.1, thawSs_ok hg hrow cs xs vs (fun n hn => hk n (List.mem_append.2 (.inr hn))) hv.2⟩

theorem killF_get (np : Nat) (ns : List Nat) : ∀ (l : List Root) (i n : Nat), getN (killF np ns i l) n = (getN l n).map (killR np ns (i + n))
  | [], _, _ => rfl
  | r :: l, i, 0 => rfl
  | r :: l, i, n + 1 => by
    show getN (killF np ns (i + 1) l) n = (getN l n).map _
    rw [killF_get np ns l (i + 1) n, show i + 1 + n = i + (n + 1) by omega]
theorem killR_or (np : Nat) (ns : List Nat) (i : Nat) (r : Root) : killR np ns i r = .dead ∨ (killR np ns i r = r ∧ (∀ t vs, r = .box t vs → vs.all refless = true) ∧ i ∉ ns) := by
  cases r with
  | dead => exact .inl rfl
  | rows e k xs =>
    simp only [killR]
    cases h : notIn i ns with
    | false => exact .inl rfl
    | true => exact .inr ⟨rfl, (fun t vs e => by cases e), notIn_ok h⟩
  | hol e k xs j =>
    simp only [killR]
    cases h : notIn i ns with
    | false => exact .inl rfl
    | true => exact .inr ⟨rfl, (fun t vs e => by cases e), notIn_ok h⟩
  | box t vs =>
    simp only [killR]
    cases Nat.blt i np with
    | false => exact .inl rfl
    | true =>
      cases h : notIn i ns with
      | false => exact .inl rfl
      | true =>
        cases h2 : vs.all refless with
        | false => exact .inl rfl
        | true => exact .inr ⟨rfl, (fun t' vs' e => by cases e; exact h2), notIn_ok h⟩
theorem boxN_ok {ns : List Nat} {h : List Root} : ∀ {n : Nat}, boxN ns h n = true → ∀ i, i ≤ n → i ∉ ns ∧ (i ≠ 0 → ∃ t vs, getN h i = some (.box t vs))
  | 0, hb, i, hi => by
    obtain rfl : i = 0 := by omega
    exact ⟨notIn_ok hb, fun e => absurd rfl e⟩
  | n + 1, hb, i, hi => by
    simp only [boxN] at hb
    rcases cn_or hb with ⟨h1, h2⟩ | ⟨_, h2⟩
    case inr => cases h2
    split at h2
    case h_2 => cases h2
    rename_i r hr
    rcases cn_or h2 with ⟨h3, h4⟩ | ⟨_, h4⟩
    case inr => cases h4
    by_cases e : i = n + 1
    · subst e
      refine ⟨notIn_ok h1, fun _ => ?_⟩
      cases r with
      | box t vs => exact ⟨t, vs, hr⟩
      | rows e k xs => cases h3
      | hol e k xs j => cases h3
      | dead => cases h3
    · exact boxN_ok h4 i (by omega)
noncomputable def frzC (ns : List Nat) (col : Col) : Col := fun g => match col g with
  | some (m + 1, x) => if m + 1 ∈ ns then none else some (m + 1, x)
  | c => c
theorem notIn_of {n : Nat} : ∀ {l : List Nat}, n ∉ l → notIn n l = true
  | [], _ => rfl
  | m :: l, h => by
    have h1 : m ≠ n := fun e => h (by rw [e]; exact List.mem_cons_self)
    have h2 : Nat.beq m n = false := by
      cases hb : Nat.beq m n with
      | false => rfl
      | true => exact absurd (Nat.eq_of_beq_eq_true hb) h1
    simp only [notIn, h2, cn]
    exact notIn_of fun e => h (List.mem_cons_of_mem _ e)
theorem frzC_none {ns : List Nat} {g : Nat} (hg : col g = none) : frzC ns col g = none := by simp only [frzC, hg]
theorem frzC_keep {ns : List Nat} {g n : Nat} {x : Bool} (hg : col g = some (n, x)) (hn : n ∉ ns) : frzC ns col g = some (n, x) := by
  simp only [frzC, hg]
  cases n with
  | zero => rfl
  | succ n => exact if_neg hn
theorem frzC_kill {ns : List Nat} {g n : Nat} {x : Bool} (hg : col g = some (n + 1, x)) (hn : n + 1 ∈ ns) : frzC ns col g = none := by
  simp only [frzC, hg]; exact if_pos hn
theorem frzC_ne {ns : List Nat} {g : Nat} (hg : frzC ns col g ≠ none) : col g = frzC ns col g := by
  revert hg
  simp only [frzC]
  split
  · rename_i h
    split
    · exact fun h => absurd rfl h
    · exact fun _ => h
  · exact fun _ => rfl
theorem refless_ok {np : Nat} {ns : List Nat} {x : AV} {v : Value} (hr : refless x = true) (hv : vrel st.heap β col w x v) :
    vrel (killF np ns 0 st.heap) β (frzC ns col) w x v := by
  have hz : ∀ g, zone col g → zone (frzC ns col) g := fun g hg => frzC_none hg
  cases x <;> first | (cases hr; done) | exact hv | skip
  · exact rep_mono (fun g o hg hw => ⟨hz g hg, hw⟩) hv
  · obtain ⟨g, o, cs, e, fz, h1, h2, h3, h4, h5⟩ := hv
    exact ⟨g, o, cs, e, fz, hz _ h1, h2, h3, h4, rep_mono (fun g o hg hw => ⟨hz g hg, hw⟩) h5⟩
theorem reflesses_ok {np : Nat} {ns : List Nat} : ∀ {xs : List AV} {vs : List Value}, xs.all refless = true → vrels st.heap β col w xs vs → vrels (killF np ns 0 st.heap) β (frzC ns col) w xs vs
  | [], [], _, _ => trivial
  | x :: xs, v :: vs, hr, hv => by
    simp only [List.all_cons, Bool.and_eq_true] at hr
    exact ⟨refless_ok hr.1 hv.1, reflesses_ok hr.2 hv.2⟩
  | [], _ :: _, _, hv => hv.elim
  | _ :: _, [], _, hv => hv.elim
/-- Roots of a call's own go to where nothing is written any more. -/
theorem freeze_ok (S : Sat own0 w0 st a w β col) {np : Nat} {ns : List Nat} (hown : ∀ g, own0 g = 1 → ∃ n b t vs, own0.fx n = some (some b, .box t vs) ∧ b.g = g ∧ n ≠ 0 ∧ n ≤ np - 1)
    (hb : boxN ns st.heap (np - 1) = true) :
    Sat own0 w0 ⟨[], killF np ns 0 st.heap, st.nt, st.nf⟩ a w β (frzC ns col) := by
  refine ⟨fun t => trivial, fun n r hr => ?_, S.nt, S.defers, S.fr, fun b hb => ?_, ?_, fun g hg hc => ?_, fun n b r h => ?_⟩
  · have hr : getN (killF np ns 0 st.heap) n = some r := hr
    rw [killF_get, Nat.zero_add] at hr
    obtain ⟨r0, h0, rfl⟩ := Option.map_eq_some_iff.1 hr
    have hR := S.heap n r0 h0
    rcases killR_or np ns n r0 with e | ⟨e, hbx, hn'⟩
    · rw [e]; trivial
    rw [e]
    cases r0 with
    | dead => exact trivial
    | box t vs =>
      obtain ⟨b, cs, k1, k2, k3, k4, k5, k6⟩ := hR
      exact ⟨b, cs, k1, k2, frzC_keep k3 hn', k4, reflesses_ok (hbx _ _ rfl) k5, k6⟩
    | rows e k xs =>
      unfold rootRel at hR ⊢
      cases hβ : β n with
      | none => rw [hβ] at hR; exact hR
      | some b =>
        rw [hβ] at hR
        obtain ⟨cs, fz, k1, k2, k3, k4, k5, k6, k7⟩ := hR
        exact ⟨cs, fz, frzC_keep k1 hn', k2, k3, k4, k5, fun i hi => rep_mono (fun g o hg hw => ⟨frzC_keep hg hn', hw⟩) (k6 i hi), owns_mono (fun g o hg hw => ⟨frzC_keep hg hn', hw⟩) k7⟩
    | hol e k xs j =>
      obtain ⟨b, cs, fz, k0, k1, k2, k3, k4, k5, k6, k7, k8, k9⟩ := hR
      exact ⟨b, cs, fz, k0, frzC_keep k1 hn', k2, k3, k4, k5, k6, k7, fun i hi hij => ⟨rep_mono (fun g o hg hw => ⟨frzC_keep hg hn', hw⟩) (k8 i hi hij).1, inK_mono (fun g o hg hw => ⟨frzC_keep hg hn', hw⟩) (k8 i hi hij).2⟩, k9⟩
  · have := S.col b (by rw [frzC_ne hb]; exact hb)
    rw [frzC_ne hb] at this
    exact this
  · show getN (killF np ns 0 st.heap) 0 = _
    rw [killF_get, S.zero]; rfl
  · by_cases h0 : col g = none
    · exact S.zon g hg h0
    · obtain ⟨h1, h2⟩ := S.col g h0
      rcases h1 with ⟨x, hx⟩ | h1 | h1
      · exfalso
        have : frzC ns col g = some (0, x) := by simp only [frzC, hx]
        rw [this] at hc; cases hc
      · omega
      · exfalso
        obtain ⟨n, b, t, vs, k1, rfl, k3, k4⟩ := hown g h1
        obtain ⟨_, k5, r', k6, k7⟩ := S.fix n _ _ k1
        obtain ⟨k8, k9⟩ := boxN_ok hb n k4
        obtain ⟨t', vs', k10⟩ := k9 k3
        have hR := S.heap n _ k10
        obtain ⟨b', cs, q1, q2, q3, _⟩ := hR
        rw [k5] at q1; cases q1
        rw [frzC_keep q3 k8] at hc
        cases hc
  · obtain ⟨h1, h2, r', h3, h4⟩ := S.fix n b r h
    refine ⟨h1, h2, killR np ns n r', ?_, ?_⟩
    · show getN (killF np ns 0 st.heap) n = _
      rw [killF_get, h3, Nat.zero_add]; rfl
    · rcases killR_or np ns n r' with e | ⟨e, _⟩
      · rw [e]; cases r <;> trivial
      · rw [e]; exact h4
theorem keepV_ok (S : Sat own0 w0 st a w β col) (np : Nat) (ns : List Nat) (x : AV) (v : Value) (hv : vrel st.heap β col w x v) :
    vrel (killF np ns 0 st.heap) β (frzC ns col) w (keepV st.heap ns x) v := by
  have gen : ∀ y : AV, vrel (killF np ns 0 st.heap) β (frzC ns col) w (cn false y .undef) v := fun y => trivial
  cases x <;> simp only [keepV, retP] <;> first | exact gen _ | exact hv | skip
  · exact rep_mono (fun g o hg hw => ⟨frzC_none hg, hw⟩) hv
  · rename_i n
    cases hnb : (notIn n ns && rowB st.heap n) with
    | false => exact trivial
    | true =>
      simp only [Bool.and_eq_true] at hnb
      obtain ⟨hn, hrb⟩ := hnb
      obtain ⟨r, hr, h0, hb⟩ := hv
      cases r with
      | dead => cases h0
      | box t vs =>
        simp only [rowB, hr] at hrb
        cases hrb
      | rows e k xs =>
        exact ⟨.rows e k xs, by rw [killF_get, hr, Nat.zero_add]; simp only [Option.map_some, killR, hn, cn], h0, hb⟩
      | hol e k xs j =>
        exact ⟨.hol e k xs j, by rw [killF_get, hr, Nat.zero_add]; simp only [Option.map_some, killR, hn, cn], h0, hb⟩
theorem thawK_ok (S : Sat own0 w0 st a w β col) (np : Nat) {rs : List Sh} {vs : List AV} {xs : List Value} (hv : vrels st.heap β col w vs xs) :
    vrels (killF np (killSs rs vs) 0 st.heap) β (frzC (killSs rs vs) col) w (thawSs st.heap (keepV st.heap (killSs rs vs)) rs vs) xs := by
  refine thawSs_ok (Pn := fun n => n ∈ killSs rs vs) (fun a v h => keepV_ok S _ _ a v h) (fun a v s h hs hl => ?_) rs vs xs (fun n hn => hn) hv
  refine readSl_row S h hs (fun g hg => frzC_none hg) (fun n hn g y hg => ?_)
  have hn' := hl n hn
  cases n with
  | succ n => exact frzC_kill hg hn'
  | zero =>
    exfalso
    cases a <;> simp only [looks, List.mem_cons, List.not_mem_nil, or_false] at hn <;> subst hn <;> simp only [readSl, S.zero] at hs <;> cases hs
theorem thaw0_ok (S : Sat own0 w0 st a w β col) {rs : List Sh} {vs : List AV} {xs : List Value} (hk : killSs rs vs = []) (hv : vrels st.heap β col w vs xs) :
    vrels st.heap β col w (thawSs st.heap id rs vs) xs := by
  refine thawSs_ok (Pn := fun _ => False) (fun a v h => h) (fun a v s h hs hl => ?_) rs vs xs (fun n hn => by rw [hk] at hn; cases hn) hv
  exact readSl_row S h hs (fun g hg => hg) (fun n hn g y hg => (hl n hn).elim)
end
/-- The colours of what is no box of these are forgotten. -/
noncomputable def straysC (β : Bs) (L : Nat) (col : Col) : Col := fun g => match col g with
  | some (m + 1, x) => if m + 1 < L ∧ ∃ b, β (m + 1) = some b ∧ b.g = g then some (m + 1, x) else some (0, x)
  | c => c
section
variable {h : List Root} {β : Bs} {col col1 : Col} {w : World}
mutual
theorem vrel_zone (hz : ∀ g, zone col g → zone col1 g) : ∀ (a : AV) (v : Value), vrel h β col w a v → vrel h β col1 w a v
  | .undef, _, _ => trivial
  | .int _ _, _, h => h
  | .bool _, _, h => h
  | .str _, _, h => h
  | .nilc, _, h => h
  | .nil _ _, _, h => h
  | .row _ _ _, _, h => rep_mono (fun g o hg hw => ⟨hz g hg, hw⟩) h
  | .ref _, _, h => h
  | .win _ _ _, _, h => h
  | .sub _ _ _, _, h => h
  | .swin _ _ _ _ _, _, h => h
  | .ptr _ _ _, _, h => h
  | .nptr _ _ _ _ _, _, h => h
  | .sptr _ _ _ _, _, h => by
    obtain ⟨g, o, cs, e, fz, h1, h2, h3, h4, h5⟩ := h
    exact ⟨g, o, cs, e, fz, hz _ h1, h2, h3, h4, rep_mono (fun g o hg hw => ⟨hz g hg, hw⟩) h5⟩
  | .agg vs, _, h => by obtain ⟨cs, e, h⟩ := h; exact ⟨cs, e, vrels_zone hz vs _ h⟩
  | .tup vs, _, h => by obtain ⟨cs, e, h⟩ := h; exact ⟨cs, e, vrels_zone hz vs _ h⟩
  | .fn _, _, h => h
  | .nilp, _, h => h
  | .own _ _ _, _, h => h
  | .mayb _, _, h => h
  | .clo _ vs, _, h => by obtain ⟨cs, e, h⟩ := h; exact ⟨cs, e, vrels_zone hz vs _ h⟩
theorem vrels_zone (hz : ∀ g, zone col g → zone col1 g) : ∀ (l : List AV) (vs : List Value), vrels h β col w l vs → vrels h β col1 w l vs
  | [], [], _ => trivial
  | a :: l, v :: vs, h => ⟨vrel_zone hz a v h.1, vrels_zone hz l vs h.2⟩
  | [], _ :: _, h => h.elim
  | _ :: _, [], h => h.elim
end
theorem strays_zone {L : Nat} (g : Nat) (hg : zone col g) : zone (straysC β L col) g := by
  show straysC β L col g = none
  simp only [straysC, show col g = none from hg]
theorem own_stray {H : List Root} {nf L : Nat} (g : Nat) : ((ownOf H nf β (straysC β L col)) g = 0 → (ownOf H nf β col) g = 0) ∧
    ((ownOf H nf β (straysC β L col)) g = 1 → (ownOf H nf β col) g = 1 ∧ ∃ m b, m + 1 < L ∧ β (m + 1) = some b ∧ b.g = g) := by
  show ((match straysC β L col g with | none => 0 | some (0, _) => 2 | some (_ + 1, _) => 1) = 0 → (match col g with | none => 0 | some (0, _) => 2 | some (_ + 1, _) => 1) = 0) ∧
    ((match straysC β L col g with | none => 0 | some (0, _) => 2 | some (_ + 1, _) => 1) = 1 → (match col g with | none => 0 | some (0, _) => 2 | some (_ + 1, _) => 1) = 1 ∧ _)
  cases hc : col g with
  | none =>
    have e : straysC β L col g = none := by simp only [straysC, hc]
    rw [e]
    exact ⟨fun _ => rfl, fun h => absurd (show (0 : Nat) = 1 from h) (by omega)⟩
  | some p =>
    obtain ⟨m, x⟩ := p
    cases m with
    | zero =>
      have e : straysC β L col g = some (0, x) := by simp only [straysC, hc]
      rw [e]
      exact ⟨fun h => h, fun h => absurd (show (2 : Nat) = 1 from h) (by omega)⟩
    | succ m =>
      by_cases hm : m + 1 < L ∧ ∃ b, β (m + 1) = some b ∧ b.g = g
      · have e : straysC β L col g = some (m + 1, x) := by simp only [straysC, hc]; exact if_pos hm
        rw [e]
        obtain ⟨h1, b, h2, h3⟩ := hm
        exact ⟨fun h => h, fun _ => ⟨rfl, m, b, h1, h2, h3⟩⟩
      · have e : straysC β L col g = some (0, x) := by simp only [straysC, hc]; exact if_neg hm
        rw [e]
        exact ⟨fun h => absurd (show (2 : Nat) = 0 from h) (by omega), fun h => absurd (show (2 : Nat) = 1 from h) (by omega)⟩
end
theorem noHand_ok : ∀ {ms : List Mode} {ts : List AV}, noHand ms = true → giveR ms ts = [] ∧ ∀ r ∈ stayR ms ts, ∃ t vs, r = .box t vs
  | [], ts, _ => by cases ts <;> exact ⟨rfl, fun r h => by cases h⟩
  | .val :: ms, [], _ => ⟨rfl, fun r h => by cases h⟩
  | .val :: ms, t :: ts, h => noHand_ok (ms := ms) (ts := ts) h
  | .pbox _ :: ms, [], _ => ⟨rfl, fun r h => by cases h⟩
  | .pbox t :: ms, x :: ts, h => by
    obtain ⟨h1, h2⟩ := noHand_ok (ms := ms) (ts := ts) h
    cases x <;> first
      | exact ⟨h1, h2⟩
      | (refine ⟨h1, fun r hr => ?_⟩
         rcases List.mem_cons.1 hr with rfl | hr
         · exact ⟨_, _, rfl⟩
         · exact h2 r hr)
  | .chg :: _, _, h => by cases h
  | .give :: _, _, h => by cases h
theorem noHand_heap {ms : List Mode} {ts : List AV} (h : noHand ms = true) {n : Nat} {r : Root} (hr : getN (heapC ms ts) n = some r) : n < nfC ms ts ∧ (n ≠ 0 → ∃ t vs, r = .box t vs) := by
  obtain ⟨h1, h2⟩ := noHand_ok (ts := ts) h
  unfold heapC at hr
  rw [h1, List.append_nil] at hr
  unfold nfC
  cases n with
  | zero => exact ⟨by omega, fun e => absurd rfl e⟩
  | succ n =>
    have hr : getN (stayR ms ts) n = some r := hr
    rw [getN_eq] at hr
    have := (List.getElem?_eq_some_iff.1 hr).1
    exact ⟨by omega, fun _ => h2 r (List.mem_of_getElem? hr)⟩

/-- **A FUNCTION**: what 'runX' tells is its contract. -/
theorem fn_run {P : Program} {C : List (Nat × Ctr)} {k : Nat} {lv : List (Nat × List (Nat × Bool))} {f : Nat} {c : Ctr} {rsh : List Sh} {ex : List AV → List Root → Option c.D} {fn : Func} {code : Code}
    (hC : ∀ g c, ctrOf C g = some c → CtrOk P g c) (hf : P.funcs[f]? = some fn) (hb : fn.body = some code)
    (hex : ∀ rs os d, ex rs os = some d → c.ret d = rs ∧ c.outs d = os) {ts : List AV} {d : c.D} {args : Array Value} {w : World} {β : Bs} {col : Col}
    (hr : runX P C k lv f c.grp c.modes rsh ex ts = some d)
    (h1 : vrels (heapC c.modes ts) β col w (group c.grp (enterV c.modes ts 1 (nfC c.modes ts))) args.toList)
    (h2 : ∀ n r, getN (heapC c.modes ts) n = some r → rootRel (heapC c.modes ts) β col w n r) (h3 : ∀ g, col g ≠ none → g < w.heap.size)
    (hz : noHand c.modes = true → ∀ g, ownOf (heapC c.modes ts) (nfC c.modes ts) β col g = 1 → ∃ n b t vs, (ownOf (heapC c.modes ts) (nfC c.modes ts) β col).fx n = some (some b, .box t vs) ∧ b.g = g ∧ n ≠ 0 ∧ n ≤ nfC c.modes ts - 1) :
    Calls P f args w fun e w' => ∃ v β' col', e = .returned v ∧
      Mem (ownOf (heapC c.modes ts) (nfC c.modes ts) β col) w (.dead :: (c.outs d ++ newL (c.ret d))) (nfC c.modes ts) β' col' w' ∧
      (c.outs d).length + 1 = nfC c.modes ts ∧
      vrel (.dead :: (c.outs d ++ newL (c.ret d))) β' col' w' (packR (seatL id (nfC c.modes ts) (c.ret d)).1) v := by
  unfold runX at hr
  rw [hf] at hr
  simp only [hb] at hr
  have hfx : ∀ n b r, (ownOf (heapC c.modes ts) (nfC c.modes ts) β col).fx n = some (b, r) → n < nfC c.modes ts := fun n b r h => by
    have h : (if n < nfC c.modes ts then (getN (heapC c.modes ts) n).map fun r => (β n, r) else none) = some (b, r) := h
    split at h
    · assumption
    · cases h
  refine calls_of_wp hf hb ?_
  refine codeX_ok (X := ⟨P, C, k, nfC c.modes ts, lv⟩) (calls_ok hC) (by show 0 < nfC c.modes ts; unfold nfC; omega) code (start_ok h1 h2 h3) hr fun e st' a' w' β' col' ho S' => ?_
  have tail : ∀ {st2 : St} {col2 : Col} {vs : List AV} {xs : List Value}, Sat (ownOf (heapC c.modes ts) (nfC c.modes ts) β col) w st2 a' w' β' col2 → vrels st2.heap β' col2 w' vs xs →
      outF (nfC c.modes ts) ex vs st2.heap = some d → ∃ β3 col3, Mem (ownOf (heapC c.modes ts) (nfC c.modes ts) β col) w (.dead :: (c.outs d ++ newL (c.ret d))) (nfC c.modes ts) β3 col3 w' ∧
        (c.outs d).length + 1 = nfC c.modes ts ∧ vrel (.dead :: (c.outs d ++ newL (c.ret d))) β3 col3 w' (packR (seatL id (nfC c.modes ts) (c.ret d)).1) (if h : xs.length = 1 then xs[0] else .tuple xs.toArray) := by
    intro st2 col2 vs xs S2 hrel ho
    unfold outF at ho
    split at ho
    case h_2 => cases ho
    rename_i h0 hf0
    split at ho
    case h_2 => cases ho
    rename_i ws rr hw
    obtain ⟨e1, e2⟩ := hex _ _ _ ho
    have RF := fix_ri S2 hf0
    obtain ⟨R1, X1, H1, E1⟩ := outAs_ok RF hw
    obtain ⟨hl0, hk0⟩ := fixR_ok hf0
    have hnp : 0 < nfC c.modes ts := by unfold nfC; omega
    have hh0 : h0 = .dead :: tailN h0 := by
      obtain ⟨x, q1, q2, _⟩ := hk0 0 hnp
      rw [S2.zero] at q1; cases q1
      cases h0 with
      | nil => cases q2
      | cons y l => cases q2; rfl
    have hH : rr.h = .dead :: (c.outs d ++ newL (c.ret d)) := by rw [H1, e1, e2]; show h0 ++ _ = _; rw [← List.cons_append, ← hh0]
    have M := ren_mem (nf := nfC c.modes ts) S2 hnp hf0 R1 X1 (fun n b r h => ⟨hfx n b r h, hfx n b r h⟩)
    rw [hH] at M
    have hres := eas_ok R1 E1 hrel
    rw [hH] at hres
    refine ⟨_, _, M, ?_, ?_⟩
    · rw [e2]
      have : h0.length = (tailN h0).length + 1 := congrArg List.length hh0
      omega
    · have := pack_is hres
      rw [show lenN h0 = nfC c.modes ts by rw [lenN_eq, hl0], ← e1] at this
      exact this
  have fin : outX P fn (nfC c.modes ts) c.modes rsh ex .ret st' = some d → a'.defers = [] ∧ ∃ v, (results fn a'.tmps).run P w' = .ok v w' ∧ (∃ v' β2 col2, Ending.returned v = .returned v' ∧
      Mem (ownOf (heapC c.modes ts) (nfC c.modes ts) β col) w (.dead :: (c.outs d ++ newL (c.ret d))) (nfC c.modes ts) β2 col2 w' ∧ (c.outs d).length + 1 = nfC c.modes ts ∧
      vrel (.dead :: (c.outs d ++ newL (c.ret d))) β2 col2 w' (packR (seatL id (nfC c.modes ts) (c.ret d)).1) v') := by
    intro ho
    unfold outX at ho
    simp only at ho
    split at ho
    case h_2 => cases ho
    rename_i vs hv
    obtain ⟨xs, hruns, hrel⟩ := resVs_ok S' hv
    split at ho
    · rename_i hk
      obtain ⟨β3, col3, M, e3, e4⟩ := tail S' (thaw0_ok S' hk hrel) ho
      exact ⟨S'.defers, _, results_run hruns, _, _, _, rfl, M, e3, e4⟩
    · obtain ⟨hn, ho⟩ := cn_some ho
      obtain ⟨hbx, ho⟩ := cn_some ho
      have SF := freeze_ok S' (hz hn) hbx
      obtain ⟨β3, col3, M, e3, e4⟩ := tail SF (thawK_ok S' _ hrel) ho
      exact ⟨S'.defers, _, results_run hruns, _, _, _, rfl, M, e3, e4⟩
  cases e with
  | normal => exact fin ho
  | ret => exact fin ho
  | exit j => cases ho
theorem fn_ok {P : Program} {C : List (Nat × Ctr)} {k : Nat} {lv : List (Nat × List (Nat × Bool))} {f : Nat} {c : Ctr} {rsh : List Sh} {ex : List AV → List Root → Option c.D} {fn : Func} {code : Code}
    (hC : ∀ g c, ctrOf C g = some c → CtrOk P g c) (hf : P.funcs[f]? = some fn) (hb : fn.body = some code) (hname : fn.name ≠ "runtime.NumGoroutine")
    (hnn : c.nd = none) (hrun : ∀ ts d, c.call ts = some d → runX P C k lv f c.grp c.modes rsh ex ts = some d)
    (hex : ∀ rs os d, ex rs os = some d → c.ret d = rs ∧ c.outs d = os) : CtrOk P f c := by
  refine CtrOk.of hnn ⟨fn, hf, hname, by rw [hb]; rfl⟩ fun ts d args w β col hd h1 h2 h3 => ?_
  have hr := hrun ts d hd
  cases hn : noHand c.modes with
  | false => exact fn_run hC hf hb hex hr h1 h2 h3 (fun e => by rw [hn] at e; cases e)
  | true =>
    have key := fn_run (col := straysC β (nfC c.modes ts) col) hC hf hb hex hr (vrels_zone strays_zone _ _ h1)
      (fun n r hr => by
        have h := h2 n r hr
        obtain ⟨q1, q2⟩ := noHand_heap hn hr
        cases n with
        | zero => cases hr; trivial
        | succ n =>
          obtain ⟨t, vs, rfl⟩ := q2 (by omega)
          obtain ⟨b, cs, k1, k2, k3, k4, k5, k6⟩ := h
          refine ⟨b, cs, k1, k2, ?_, k4, vrels_zone strays_zone _ _ k5, k6⟩
          simp only [straysC, k3]
          exact if_pos ⟨q1, b, k1, rfl⟩)
      (fun g hg => h3 g (fun e => hg (strays_zone g e)))
      (fun _ g hg => by
        obtain ⟨_, m, b, k1, k2, k3⟩ := own_stray g |>.2 hg
        have hl : ∃ r, getN (heapC c.modes ts) (m + 1) = some r := by
          have hh : (heapC c.modes ts).length = nfC c.modes ts := by
            unfold heapC nfC
            rw [(noHand_ok (ts := ts) hn).1, List.append_nil, List.length_cons]; omega
          rw [getN_eq]
          exact ⟨_, List.getElem?_eq_getElem (by omega)⟩
        obtain ⟨r, hr⟩ := hl
        obtain ⟨t, vs, rfl⟩ := (noHand_heap hn hr).2 (by omega)
        refine ⟨m + 1, b, t, vs, ?_, k3, by omega, by omega⟩
        show (if m + 1 < nfC c.modes ts then (getN (heapC c.modes ts) (m + 1)).map fun r => (β (m + 1), r) else none) = _
        rw [if_pos k1, hr, k2]; rfl)
    refine key.mono fun e w' hx => ?_
    obtain ⟨v, β', col', e1, M, e2, e3⟩ := hx
    refine ⟨v, β', col', e1, ?_, e2, e3⟩
    exact ⟨M.heap, ⟨M.fr.os, M.fr.tape, M.fr.output, M.fr.size, fun b hb hn => M.fr.block b hb (fun e => hn ((own_stray b).2 e).1)⟩,
      fun b hb => ⟨(M.col b hb).1.imp id (Or.imp id (fun e => ((own_stray b).2 e).1)), (M.col b hb).2⟩, M.zero, fun g hg hc => (own_stray g).1 (M.zon g hg hc), M.fix⟩
end Go.Proofs.YtlkbmcmglkdciaaE
