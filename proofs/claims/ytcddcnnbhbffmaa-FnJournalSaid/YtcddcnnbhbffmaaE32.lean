/- A function that the executor carries out holds as it tells. No condition. -/
import Derived.Test.YtcddcnnbhbffmaaE31
set_option linter.unusedVariables false
set_option linter.unusedSectionVars false
set_option linter.unusedSimpArgs false
namespace Go.Proofs.YtcddcnnbhbffmaaE
open Go Go.RowKit
open Classical

/-- The results' own reading. -/
def resOf (tmps : Array Value) : ResultVar → Sem Value
  | .tmp t => pure (tmps.getD t undef)
  | .cell a t => do loadVar t (← asAddr (tmps.getD a undef))
inductive Runs (P : Program) (w : World) (f : ResultVar → Sem Value) : List ResultVar → List Value → Prop where
  | nil : Runs P w f [] []
  | cons {x : ResultVar} {v : Value} {l : List ResultVar} {vs : List Value} (h : (f x).run P w = .ok v w) (t : Runs P w f l vs) : Runs P w f (x :: l) (v :: vs)
theorem run_list {P : Program} {w : World} {f : ResultVar → Sem Value} : ∀ {l : List ResultVar} {vs : List Value}, Runs P w f l vs → (l.mapM f).run P w = .ok vs w
  | [], _, h => by cases h; rfl
  | x :: l, _, h => by
    cases h with
    | cons h1 h2 =>
      rw [List.mapM_cons, run_then h1, run_then (run_list h2)]
      rfl
theorem results_run {P : Program} {w : World} {fn : Func} {tmps : Array Value} {vs : List Value} (h : Runs P w (resOf tmps) fn.results.toList vs) :
    (results fn tmps).run P w = .ok (if h : vs.length = 1 then vs[0] else .tuple vs.toArray) w := by
  unfold results
  change (fn.results.mapM (resOf tmps) >>= fun vs => pure (if h : vs.size = 1 then vs[0] else .tuple vs)).run P w = _
  rw [Array.mapM_eq_mapM_toList]
  have h2 : (List.toArray <$> fn.results.toList.mapM (resOf tmps)).run P w = .ok vs.toArray w := by
    rw [map_eq_pure_bind, run_then (run_list h)]; rfl
  rw [run_then h2]
  simp only [List.size_toArray]
  by_cases hl : vs.length = 1
  · rw [dif_pos (by simpa using hl), dif_pos hl]; simp [pure, Sem.run]
  · rw [dif_neg (by simpa using hl), dif_neg hl]; rfl

section
variable {own0 : Own} {w0 : World} {st : St} {a : Act} {w : World} {β : Bs} {col : Col} {P : Program}
theorem resVs_ok (S : Sat own0 w0 st a w β col) : ∀ {l : List ResultVar} {as : List AV}, resVs P st l = some as → ∃ vs, Runs P w (resOf a.tmps) l vs ∧ vrels st.heap β col w as vs
  | [], as, h => by cases h; exact ⟨[], .nil, trivial⟩
  | .tmp t :: l, as, h => by
    simp only [resVs] at h
    have fin : ∀ vs, resVs P st l = some vs → as = lk st.env t :: vs → ∃ vs, Runs P w (resOf a.tmps) (.tmp t :: l) vs ∧ vrels st.heap β col w as vs := by
      rintro vs h1 rfl
      obtain ⟨xs, i1, i2⟩ := resVs_ok S h1
      exact ⟨_ :: xs, .cons rfl i1, S.env t, i2⟩
    split at h
    · cases h
    · exact fin _ ‹resVs P st l = some _› (by cases h; rfl)
    · cases h
  | .cell b t :: l, as, h => by
    simp only [resVs] at h
    split at h
    · rename_i v st' vs h1 h2
      cases h
      obtain ⟨xs, i1, i2⟩ := resVs_ok S h2
      obtain ⟨_, r, h3, h4⟩ := load_ok S (S.env b) h1
      have hp : ∃ A, a.tmps.getD b undef = .pointer (some A) := by
        unfold stLoad at h1
        split at h1
        · rename_i us hr
          obtain ⟨g, o, cs, e, fz, h, _⟩ := rest_ok S (S.env b) hr
          exact ⟨_, h⟩
        · cases h1
      obtain ⟨A, hA⟩ := hp
      refine ⟨r :: xs, .cons ?_ i1, h4, i2⟩
      rw [hA] at h3
      have he : resOf a.tmps (.cell b t) = (do loadVar t (← asAddr (a.tmps.getD b undef))) := rfl
      rw [he, hA]
      exact h3 w (Below.refl _ _)
    · cases h

theorem pack_is {h : List Root} {l : List AV} {vs : List Value} (hv : vrels h β col w l vs) : vrel h β col w (packR l) (if h : vs.length = 1 then vs[0] else .tuple vs.toArray) := by
  match l, vs, hv with
  | [], [], _ => exact ⟨#[], rfl, trivial⟩
  | [x], [v], hv => exact hv.1
  | x :: y :: l, v :: u :: vs, hv => 
    rw [dif_neg (by simp)]
    exact ⟨_, rfl, hv⟩

theorem enum_lk : ∀ {l : List AV} {vs : List Value} {i : Nat} {h : List Root}, vrels h β col w l vs → ∀ t, lk (enumE i l) t = .undef ∨ ∃ v, i ≤ t ∧ vs[t - i]? = some v ∧ vrel h β col w (lk (enumE i l) t) v
  | [], vs, i, h, hv, t => .inl rfl
  | x :: l, [], i, h, hv, t => hv.elim
  | x :: l, v :: vs, i, h, hv, t => by
    simp only [enumE]
    rw [lk_cons]
    split
    · rename_i e; subst e
      exact .inr ⟨v, Nat.le_refl _, by simp, hv.1⟩
    · rename_i e
      rcases enum_lk hv.2 t (i := i + 1) with h1 | ⟨u, h1, h2, h3⟩
      · exact .inl h1
      · refine .inr ⟨u, by omega, ?_, h3⟩
        rw [show t - i = (t - (i + 1)) + 1 by omega]; simpa using h2
end

/-- The state that a call begins with. -/
theorem start_ok {fn : Func} {gr : List Grp} {ms : List Mode} {ts : List AV} {args : Array Value} {w : World} {β : Bs} {col : Col}
    (h1 : vrels (heapC ms ts) β col w (group gr (enterV ms ts 1 (nfC ms ts))) args.toList)
    (h2 : ∀ n r, getN (heapC ms ts) n = some r → rootRel (heapC ms ts) β col w n r) (h3 : ∀ g, col g ≠ none → g < w.heap.size) :
    Sat (ownOf (heapC ms ts) (nfC ms ts) β col) w (startX fn gr ms ts) { tmps := args ++ Array.replicate (fn.ntmps - args.size) undef, defers := [] } w β col := by
  refine ⟨fun t => ?_, h2, ?_, rfl, ⟨rfl, rfl, rfl, Nat.le_refl _, fun _ _ _ => rfl⟩, fun b hb => ⟨?_, h3 b hb⟩, rfl, fun g hg hc => ?_, fun n b r h => ?_⟩
  · show vrel (heapC ms ts) β col w (lk (enumE 0 _) t) _
    rcases enum_lk h1 t (i := 0) with h | ⟨v, _, h, hv⟩
    · rw [h]; trivial
    · rw [Nat.sub_zero, Array.getElem?_toList] at h
      have hlt := (Array.getElem?_eq_some_iff.1 h).1
      rw [Array.getD_eq_getD_getElem?, Array.getElem?_append_left hlt, h]
      exact hv
  · show (args ++ Array.replicate (fn.ntmps - args.size) undef).size = lenN (group gr (enterV ms ts 1 (nfC ms ts))) + (fn.ntmps - lenN (group gr (enterV ms ts 1 (nfC ms ts))))
    have hl : args.size = (group gr (enterV ms ts 1 (nfC ms ts))).length := by rw [vrels_len h1, Array.length_toList]
    rw [lenN_eq]; simp [hl]
  · show (∃ x, col b = some (0, x)) ∨ _ ∨ (match col b with | none => 0 | some (0, _) => 2 | some (_ + 1, _) => 1) = 1
    split
    · rename_i h; exact absurd h hb
    · rename_i x h; exact .inl ⟨x, h⟩
    · exact .inr (.inr rfl)
  · show (match col g with | none => 0 | some (0, _) => 2 | some (_ + 1, _) => 1) = 0
    rw [hc]
  · have h : (if n < nfC ms ts then (getN (heapC ms ts) n).map fun r => (β n, r) else none) = some (b, r) := h
    split at h
    · rename_i hn
      cases hg : getN (heapC ms ts) n with
      | none => rw [hg] at h; cases h
      | some r0 => rw [hg] at h; cases h; exact ⟨hn, rfl, _, hg, Shape.refl _⟩
    · cases h

/-- **A FUNCTION**: what 'runX' tells is its contract. -/
theorem fn_ok {P : Program} {C : List (Nat × Ctr)} {k : Nat} {lv : List (Nat × List (Nat × Bool))} {f : Nat} {c : Ctr} {ex : List AV → List Root → Option c.D} {fn : Func} {code : Code}
    (hC : ∀ g c, ctrOf C g = some c → CtrOk P g c) (hf : P.funcs[f]? = some fn) (hb : fn.body = some code) (hname : fn.name ≠ "runtime.NumGoroutine")
    (hrun : ∀ ts d, c.call ts = some d → runX P C k lv f c.grp c.modes ex ts = some d)
    (hex : ∀ rs os d, ex rs os = some d → c.ret d = rs ∧ c.outs d = os) : CtrOk P f c := by
  refine ⟨⟨fn, hf, hname, by rw [hb]; rfl⟩, fun ts d args w β col hd h1 h2 h3 => ?_⟩
  have hr := hrun ts d hd
  unfold runX at hr
  rw [hf] at hr
  simp only [hb] at hr
  refine calls_of_wp hf hb ?_
  refine codeX_ok (X := ⟨P, C, k, nfC c.modes ts, lv⟩) (calls_ok hC) (by show 0 < nfC c.modes ts; unfold nfC; omega) code (start_ok h1 h2 h3) hr fun e st' a' w' β' col' ho S' => ?_
  have fin : outX P fn (nfC c.modes ts) ex .ret st' = some d → a'.defers = [] ∧ ∃ v, (results fn a'.tmps).run P w' = .ok v w' ∧ (∃ v' β2 col2, Ending.returned v = .returned v' ∧
      Mem (ownOf (heapC c.modes ts) (nfC c.modes ts) β col) w (.dead :: (c.outs d ++ newL (c.ret d))) (nfC c.modes ts) β2 col2 w' ∧ (c.outs d).length + 1 = nfC c.modes ts ∧
      vrel (.dead :: (c.outs d ++ newL (c.ret d))) β2 col2 w' (packR (seatL id (nfC c.modes ts) (c.ret d)).1) v') := by
    intro ho
    unfold outX at ho
    simp only at ho
    split at ho
    case h_2 => cases ho
    rename_i vs h0 hv hf0
    split at ho
    case h_2 => cases ho
    rename_i ws rr hw
    obtain ⟨e1, e2⟩ := hex _ _ _ ho
    obtain ⟨xs, hruns, hrel⟩ := resVs_ok S' hv
    have RF := fix_ri S' hf0
    obtain ⟨R1, X1, H1, E1⟩ := outAs_ok RF hw
    obtain ⟨hl0, hk0⟩ := fixR_ok hf0
    have hnp : 0 < nfC c.modes ts := by unfold nfC; omega
    have hh0 : h0 = .dead :: tailN h0 := by
      obtain ⟨x, q1, q2, _⟩ := hk0 0 hnp
      rw [S'.zero] at q1; cases q1
      cases h0 with
      | nil => cases q2
      | cons y l => cases q2; rfl
    have hH : rr.h = .dead :: (c.outs d ++ newL (c.ret d)) := by rw [H1, e1, e2]; show h0 ++ _ = _; rw [← List.cons_append, ← hh0]
    have M := ren_mem (nf := nfC c.modes ts) S' hnp hf0 R1 X1 (fun n b r h => by
      have h : (if n < nfC c.modes ts then (getN (heapC c.modes ts) n).map fun r => (β n, r) else none) = some (b, r) := h
      split at h
      · rename_i hn; exact ⟨hn, hn⟩
      · cases h)
    rw [hH] at M
    have hres := eas_ok R1 E1 hrel
    rw [hH] at hres
    refine ⟨S'.defers, _, results_run hruns, _, _, _, rfl, M, ?_, ?_⟩
    · rw [e2]
      have : h0.length = (tailN h0).length + 1 := congrArg List.length hh0
      omega
    · have := pack_is hres
      rw [show lenN h0 = nfC c.modes ts by rw [lenN_eq, hl0], ← e1] at this
      exact this
  cases e with
  | normal => exact fin ho
  | ret => exact fin ho
  | exit j => cases ho
end Go.Proofs.YtcddcnnbhbffmaaE
