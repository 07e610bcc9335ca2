/- Calls hold, of all that a text has contracts for; how a function ends. No condition. -/
import Derived.Test.YtcddcnnbhbffmaaE29
set_option linter.unusedVariables false
set_option linter.unusedSectionVars false
set_option linter.unusedSimpArgs false
namespace Go.Proofs.YtcddcnnbhbffmaaE
open Go Go.RowKit
open Classical

theorem evArgs_ok {own0 : Own} {w0 : World} {st : St} {a : Act} {w : World} {β : Bs} {col : Col} (S : Sat own0 w0 st a w β col) : ∀ {xs : List Operand} {as : List AV}, evs st xs = some as → vrels st.heap β col w as (xs.map a.eval)
  | [], as, h => by cases h; trivial
  | x :: xs, as, h => by
    simp only [evs] at h
    split at h
    · rename_i v vs h1 h2
      cases h
      exact ⟨ev_ok S h1, evArgs_ok S h2⟩
    · cases h

/-- Arguments and their parts. -/
inductive Fits : List Grp → List Value → List Value → Prop where
  | nil (l : List Value) : Fits [] l l
  | one {g : List Grp} {v : Value} {l f : List Value} (h : Fits g l f) : Fits (.one :: g) (v :: l) (v :: f)
  | agg {g : List Grp} {n : Nat} {cs : Array Value} {l f : List Value} (hn : cs.toList.length = n) (h : Fits g l f) : Fits (.agg n :: g) (.agg cs :: l) (cs.toList ++ f)
  | clo {g : List Grp} {i n : Nat} {cs : Array Value} {l f : List Value} (hn : cs.toList.length = n) (h : Fits g l f) : Fits (.clo i n :: g) (.func (.func i) #[] cs :: l) (cs.toList ++ f)
section
variable {h : List Root} {β : Bs} {col : Col} {w : World}
theorem ungroup_ok : ∀ {g : List Grp} {as r : List AV} {vs : List Value}, ungroup g as = some r → vrels h β col w as vs → ∃ fs, Fits g vs fs ∧ vrels h β col w r fs
  | [], as, r, vs, hu, hv => by cases hu; exact ⟨vs, .nil _, hv⟩
  | .one :: g, [], r, vs, hu, hv => by cases hu
  | .one :: g, a :: as, r, [], hu, hv => hv.elim
  | .one :: g, a :: as, r, v :: vs, hu, hv => by
    simp only [ungroup] at hu
    split at hu
    · rename_i r' h1
      cases hu
      obtain ⟨fs, h2, h3⟩ := ungroup_ok h1 hv.2
      exact ⟨_, .one h2, hv.1, h3⟩
    · cases hu
  | .agg n :: g, [], r, vs, hu, hv => by cases hu
  | .agg n :: g, a :: as, r, [], hu, hv => hv.elim
  | .agg n :: g, a :: as, r, v :: vs, hu, hv => by
    cases a <;> simp only [ungroup] at hu <;> first | (cases hu; done) | skip
    obtain ⟨h0, h1⟩ := cn_some hu
    split at h1
    · rename_i l r' h2
      cases h1
      obtain ⟨cs, e, hc⟩ := hv.1
      subst e
      obtain ⟨fs, h3, h4⟩ := ungroup_ok h2 hv.2
      exact ⟨_, .agg (by rw [← vrels_len hc, ← lenN_eq]; exact Nat.eq_of_beq_eq_true h0) h3, vrels_append hc h4⟩
    · cases h1
  | .clo i n :: g, [], r, vs, hu, hv => by cases hu
  | .clo i n :: g, a :: as, r, [], hu, hv => hv.elim
  | .clo i n :: g, a :: as, r, v :: vs, hu, hv => by
    cases a <;> simp only [ungroup] at hu <;> first | (cases hu; done) | skip
    obtain ⟨h0, h1⟩ := cn_some hu
    simp only [Bool.and_eq_true] at h0
    split at h1
    · rename_i l r' h2
      cases h1
      obtain ⟨cs, e, hc⟩ := hv.1
      subst e
      have := Nat.eq_of_beq_eq_true h0.2
      subst this
      obtain ⟨fs, h3, h4⟩ := ungroup_ok h2 hv.2
      exact ⟨_, .clo (by rw [← vrels_len hc, ← lenN_eq]; exact Nat.eq_of_beq_eq_true h0.1) h3, vrels_append hc h4⟩
    · cases h1
theorem group_ok {g : List Grp} {vs fs : List Value} (hf : Fits g vs fs) : ∀ {l : List AV}, vrels h β col w l fs → vrels h β col w (group g l) vs := by
  induction hf with
  | nil => intro l hv; exact hv
  | one _ ih =>
    intro l hv
    cases l with
    | nil => exact hv.elim
    | cons a l => exact ⟨hv.1, ih hv.2⟩
  | @agg g n cs l f hn _ ih =>
    intro l hv
    have h1 := vrels_take n hv
    have h2 := vrels_drop n hv
    rw [List.take_left' hn] at h1
    rw [List.drop_left' hn] at h2
    simp only [group, takeN_eq, dropN_eq]
    exact ⟨⟨cs, rfl, h1⟩, ih h2⟩
  | @clo g i n cs l f hn _ ih =>
    intro l hv
    have h1 := vrels_take n hv
    have h2 := vrels_drop n hv
    rw [List.take_left' hn] at h1
    rw [List.drop_left' hn] at h2
    simp only [group, takeN_eq, dropN_eq]
    exact ⟨⟨cs, rfl, h1⟩, ih h2⟩
end
theorem run_call {P : Program} {o : Oper} {f : Operand} {args : Array Operand} {tys : Array Nat} {a : Act} {w : World} {g : Nat} {fn : Func}
    (ho : o.op = .call { callee := .value f, args := args, argTypes := tys }) {cs : Array Value} (hf : a.eval f = .func (.func g) #[] cs) (hg : P.funcs[g]? = some fn) (hn : fn.name ≠ "runtime.NumGoroutine") (hb : fn.body.isSome = true) :
    (execOp a.eval o).run P w = .ok (.enter g (args.map a.eval ++ cs)) w := by
  unfold execOp
  rw [ho]
  obtain ⟨c, hc⟩ := Option.isSome_iff_exists.1 hb
  simp [resolve, hf, Deferred.ofValue, invoke, callFunc, bind, Sem.bind, pure, Sem.run, program, hg, hn, hc]

theorem handL_val {ms : List Mode} {as : List AV} (h : ms.all isVal = true) : handL ms as = [] := by
  unfold handL
  have h1 : ∀ {ms : List Mode} {as : List AV}, ms.all isVal = true → nsOf ms as = [] ∧ gsOf ms as = [] := by
    intro ms
    induction ms with
    | nil => intro as _; exact ⟨rfl, rfl⟩
    | cons m ms ih =>
      intro as h
      simp only [List.all_cons, Bool.and_eq_true] at h
      cases m with
      | val => cases as with
        | nil => exact ⟨rfl, rfl⟩
        | cons v l => simp only [nsOf, gsOf]; exact ih h.2
      | _ => cases h.1
  rw [(h1 h).1, (h1 h).2]; rfl
theorem calls_ok {X : Ctx} (hC : ∀ g c, ctrOf X.C g = some c → CtrOk X.P g c) : CallsOk X := by
  intro R r own0 w0 st a w β col g o f args tys as0 ex κ K Q ho hf has S h hK
  unfold callX at h
  split at h
  case h_2 => cases h
  rename_i c fn hc hfn
  obtain ⟨⟨fn', hfn', hname, hbody⟩, hok⟩ := hC g c hc
  rw [hfn] at hfn'; cases hfn'
  split at h
  case h_2 => cases h
  rename_i as hun
  split at h
  case h_2 => cases h
  rename_i ts hts
  obtain ⟨h1, h2⟩ := cn_some h
  simp only [Bool.and_eq_true] at h1
  cases hd : c.call ts with
  | none => rw [hd] at h2; cases h2
  | some d =>
    rw [hd] at h2
    simp only [Option.bind_some] at h2
    obtain ⟨h3, h4⟩ := cn_some h2
    simp only [Bool.and_eq_true] at h3
    split at h4
    case h_2 => cases h4
    rename_i hp hput
    split at h4
    case h_2 => cases h4
    rename_i st' hst'
    have hnd := nodupN_ok h1.1
    have hap := apartN_ok h1.2
    have hfv : ∃ cs, a.eval f = .func (.func g) #[] cs ∧ vrels st.heap β col w ex cs.toList := by
      rcases hf with ⟨hf, rfl⟩ | hf
      · exact ⟨#[], ev_ok S hf, trivial⟩
      · obtain ⟨cs, e, hc⟩ := ev_ok S hf
        exact ⟨cs, e, hc⟩
    obtain ⟨cs, hfv, hcs⟩ := hfv
    obtain ⟨fs, hfit, hv⟩ := ungroup_ok hun (vrels_append (evArgs_ok S has) hcs)
    obtain ⟨i1, i2, i3⟩ := call_in S hts hv hnd hap
    have hcall := hok ts d (args.map a.eval ++ cs) w _ _ hd (by rw [Array.toList_append, Array.toList_map]; exact group_ok hfit i1) i2 i3
    unfold Oper.wp
    rw [run_call ho hfv hfn hname hbody, Oper.upon_enter]
    refine Calls.mono hcall fun e w' he => ?_
    obtain ⟨v, β', col', rfl, M, hlen, hres⟩ := he
    obtain ⟨β2, col2, S2, hv2⟩ := call_out S hts hnd rfl M hlen hres h3.1 h3.2 hput
    refine hK _ _ _ _ _ h4 (S2.put hst' hv2) fun q hw => ?_
    cases hq : qFree q with
    | true => exact .inl hq
    | false =>
    refine BelowQ.of ?_ q
    have hval : c.modes.all isVal = true := by
      unfold wrX at hw
      rw [hq, ho] at hw
      simp only [cn] at hw
      cases f with
      | func g' =>
        have hf : g' = g := by rcases hf with ⟨hf, _⟩ | hf <;> simp [ev] at hf; exact hf
        subst hf
        simp only [hc] at hw
        simpa using hw
      | _ => cases hw
    have hL := handL_val (as := as) hval
    refine ⟨M.fr.os, M.fr.tape, M.fr.output, M.fr.size, fun b hb => M.fr.block b hb fun h => ?_⟩
    have h : (match hereC (handL c.modes as) (isE (looksOf st.heap c.modes as)) col b with | none => 0 | some (0, _) => 2 | some (_ + 1, _) => 1) = 1 := h
    rw [hL] at h
    split at h
    · cases h
    · cases h
    · rename_i j x hx
      obtain ⟨n, _, hn, _⟩ := hereC_at hx
      simp at hn
end Go.Proofs.YtcddcnnbhbffmaaE
