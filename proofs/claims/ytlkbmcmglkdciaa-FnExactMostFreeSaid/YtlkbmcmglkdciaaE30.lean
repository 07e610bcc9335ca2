/- Calls hold, of all that a text has contracts for; how a function ends. No condition. -/
import Derived.Test.YtlkbmcmglkdciaaE29
set_option linter.unusedVariables false
set_option linter.unusedSectionVars false
set_option linter.unusedSimpArgs false
namespace Go.Proofs.YtlkbmcmglkdciaaE
open Go Go.RowKit
open Classical

theorem evArgs_ok {own0 : Own} {w0 : World} {st : St} {a : Act} {w : World} {β : Bs} {col : Col} (S : Sat own0 w0 st a w β col) : ∀ {xs : List Operand} {as : List AV}, evs st xs = some as → vrels st.heap β col w as (xs.map a.eval)
  | [], as, h => by cases h; trivial
  | x :: xs, as, h => by
    simp only [evs] at h
    split at h
    · rename_i v vs h1 h2
      cases h
      exact ⟨ev_ok S h1, evArgs_ok S h2⟩
    · cases h

/-- Arguments and their parts. -/
inductive Fits : List Grp → List Value → List Value → Prop where
  | nil (l : List Value) : Fits [] l l
  | one {g : List Grp} {v : Value} {l f : List Value} (h : Fits g l f) : Fits (.one :: g) (v :: l) (v :: f)
  | agg {g : List Grp} {n : Nat} {cs : Array Value} {l f : List Value} (hn : cs.toList.length = n) (h : Fits g l f) : Fits (.agg n :: g) (.agg cs :: l) (cs.toList ++ f)
  | clo {g : List Grp} {i n : Nat} {cs : Array Value} {l f : List Value} (hn : cs.toList.length = n) (h : Fits g l f) : Fits (.clo i n :: g) (.func (.func i) #[] cs :: l) (cs.toList ++ f)
section
variable {h : List Root} {β : Bs} {col : Col} {w : World}
theorem ungroup_ok : ∀ {g : List Grp} {as r : List AV} {vs : List Value}, ungroup g as = some r → vrels h β col w as vs → ∃ fs, Fits g vs fs ∧ vrels h β col w r fs
  | [], as, r, vs, hu, hv => by cases hu; exact ⟨vs, .nil _, hv⟩
  | .one :: g, [], r, vs, hu, hv => by cases hu
  | .one :: g, a :: as, r, [], hu, hv => hv.elim
  | .one :: g, a :: as, r, v :: vs, hu, hv => by
    simp only [ungroup] at hu
    split at hu
    · rename_i r' h1
      cases hu
      obtain ⟨fs, h2, h3⟩ := ungroup_ok h1 hv.2
      exact ⟨_, .one h2, hv.1, h3⟩
    · cases hu
  | .agg n :: g, [], r, vs, hu, hv => by cases hu
  | .agg n :: g, a :: as, r, [], hu, hv => hv.elim
  | .agg n :: g, a :: as, r, v :: vs, hu, hv => by
    cases a <;> simp only [ungroup] at hu <;> first | (cases hu; done) | skip
    obtain ⟨h0, h1⟩ := cn_some hu
    split at h1
    · rename_i l r' h2
      cases h1
      obtain ⟨cs, e, hc⟩ := hv.1
      subst e
      obtain ⟨fs, h3, h4⟩ := ungroup_ok h2 hv.2
      exact ⟨_, .agg (by rw [← vrels_len hc, ← lenN_eq]; exact Nat.eq_of_beq_eq_true h0) h3, vrels_append hc h4⟩
    · cases h1
  | .clo i n :: g, [], r, vs, hu, hv => by cases hu
  | .clo i n :: g, a :: as, r, [], hu, hv => hv.elim
  | .clo i n :: g, a :: as, r, v :: vs, hu, hv => by
    cases a <;> simp only [ungroup] at hu <;> first | (cases hu; done) | skip
    obtain ⟨h0, h1⟩ := cn_some hu
    simp only [Bool.and_eq_true] at h0
    split at h1
    · rename_i l r' h2
      cases h1
      obtain ⟨cs, e, hc⟩ := hv.1
      subst e
      have := Nat.eq_of_beq_eq_true h0.2
      subst this
      obtain ⟨fs, h3, h4⟩ := ungroup_ok h2 hv.2
      exact ⟨_, .clo (by rw [← vrels_len hc, ← lenN_eq]; exact Nat.eq_of_beq_eq_true h0.1) h3, vrels_append hc h4⟩
    · cases h1
theorem group_ok {g : List Grp} {vs fs : List Value} (hf : Fits g vs fs) : ∀ {l : List AV}, vrels h β col w l fs → vrels h β col w (group g l) vs := by
  induction hf with
  | nil => intro l hv; exact hv
  | one _ ih =>
    intro l hv
    cases l with
    | nil => exact hv.elim
    | cons a l => exact ⟨hv.1, ih hv.2⟩
  | @agg g n cs l f hn _ ih =>
    intro l hv
    have h1 := vrels_take n hv
    have h2 := vrels_drop n hv
    rw [List.take_left' hn] at h1
    rw [List.drop_left' hn] at h2
    simp only [group, takeN_eq, dropN_eq]
    exact ⟨⟨cs, rfl, h1⟩, ih h2⟩
  | @clo g i n cs l f hn _ ih =>
    intro l hv
    have h1 := vrels_take n hv
    have h2 := vrels_drop n hv
    rw [List.take_left' hn] at h1
    rw [List.drop_left' hn] at h2
    simp only [group, takeN_eq, dropN_eq]
    exact ⟨⟨cs, rfl, h1⟩, ih h2⟩
end
theorem run_call {P : Program} {o : Oper} {f : Operand} {args : Array Operand} {tys : Array Nat} {a : Act} {w : World} {g : Nat} {fn : Func}
    (ho : o.op = .call { callee := .value f, args := args, argTypes := tys }) {cs : Array Value} (hf : a.eval f = .func (.func g) #[] cs) (hg : P.funcs[g]? = some fn) (hn : fn.name ≠ "runtime.NumGoroutine") (hb : fn.body.isSome = true) :
    (execOp a.eval o).run P w = .ok (.enter g (args.map a.eval ++ cs)) w := by
  unfold execOp
  rw [ho]
  obtain ⟨c, hc⟩ := Option.isSome_iff_exists.1 hb
  simp [resolve, hf, Deferred.ofValue, invoke, callFunc, bind, Sem.bind, pure, Sem.run, program, hg, hn, hc]

theorem handL_val {ms : List Mode} {as : List AV} (h : ms.all isVal = true) : handL ms as = [] := by
  unfold handL
  have h1 : ∀ {ms : List Mode} {as : List AV}, ms.all isVal = true → nsOf ms as = [] ∧ gsOf ms as = [] := by
    intro ms
    induction ms with
    | nil => intro as _; exact ⟨rfl, rfl⟩
    | cons m ms ih =>
      intro as h
      simp only [List.all_cons, Bool.and_eq_true] at h
      cases m with
      | val => cases as with
        | nil => exact ⟨rfl, rfl⟩
        | cons v l => simp only [nsOf, gsOf]; exact ih h.2
      | _ => cases h.1
  rw [(h1 h).1, (h1 h).2]; rfl
theorem put_heap {st st' : St} {d : Option Nat} {v : AV} (h : st.put d v = some st') : st'.heap = st.heap ∧ st'.nf = st.nf := by
  cases d with
  | none => cases h; exact ⟨rfl, rfl⟩
  | some d => obtain ⟨_, h⟩ := cn_some h; cases h; exact ⟨rfl, rfl⟩
theorem callA_ok {X : Ctx} {g : Nat} {c : Ctr} (hok : CtrOk X.P g c) {R : Type} {r : R} {own0 : Own} {w0 : World} {st : St} {a : Act} {w : World} {β : Bs} {col : Col} {o : Oper} {f : Operand} {args : Array Operand} {tys : Array Nat}
    {ts0 : List Nat} {as : List AV} {cs : Array Value} {fs : List Value} {κ : St → Option R} {K : Act → World → Prop} {Q : Exit → Act → World → Prop}
    (ho : o.op = .call { callee := .value f, args := args, argTypes := tys }) (hfv : a.eval f = .func (.func g) #[] cs) (hfit : Fits c.grp (args.map a.eval ++ cs).toList fs) (hv : vrels st.heap β col w as fs)
    (S : Sat own0 w0 st a w β col) (h : callA X c ts0 o as st κ = some r)
    (hK : ∀ st' v w' β' col', κ st' = some r → Sat own0 w0 st' (a.put o.dst v) w' β' col' → Kept (nsOf c.modes as) (somes (gsOf c.modes as)) st.heap st'.heap w w' col col' β β' → st'.nf = st.nf →
      (c.modes.all isVal = true → Below w.heap.size w w') → K (a.put o.dst v) w') : o.wp X.P a w K Q := by
  unfold callA at h
  obtain ⟨⟨fn, hfn, hname, hbody⟩, hok⟩ := hok
  split at h
  case h_2 => cases h
  rename_i ts hts
  obtain ⟨h1, h2⟩ := cn_some h
  simp only [Bool.and_eq_true] at h1
  obtain ⟨p, hcan, hall⟩ := bindC_ok h2
  · have hnd := nodupN_ok h1.1
    have hap := apartN_ok h1.2
    obtain ⟨i1, i2, i3⟩ := call_in S hts hv hnd hap
    have hcall := hok ts p (args.map a.eval ++ cs) w _ _ hcan (group_ok hfit i1) i2 i3
    unfold Oper.wp
    rw [run_call ho hfv hfn hname hbody, Oper.upon_enter]
    refine Calls.mono hcall fun e w' he => ?_
    obtain ⟨d, hd, v, β', col', rfl, M, hlen, hres⟩ := he
    have h2 := hall d hd
    obtain ⟨h3, h4⟩ := cn_some h2
    simp only [Bool.and_eq_true] at h3
    simp only at h4
    split at h4
    case h_2 => cases h4
    rename_i hp hput
    split at h4
    case h_2 => cases h4
    rename_i st' hst'
    obtain ⟨β2, col2, S2, hv2, hkept⟩ := call_out S hts hnd rfl M hlen hres h3.1 h3.2 hput
    obtain ⟨e1, e2⟩ := put_heap hst'
    refine hK _ _ _ _ _ h4 (S2.put hst' hv2) (by rw [e1]; exact hkept) (by rw [e2]; exact kills_nf) fun hval => ?_
    have hL := handL_val (as := as) hval
    refine ⟨M.fr.os, M.fr.tape, M.fr.output, M.fr.size, fun b hb => M.fr.block b hb fun h => ?_⟩
    have h : (match hereC (handL c.modes as) (isE (looksOf st.heap c.modes as)) col b with | none => 0 | some (0, _) => 2 | some (_ + 1, _) => 1) = 1 := h
    rw [hL] at h
    split at h
    · cases h
    · cases h
    · rename_i j x hx
      obtain ⟨n, _, hn, _⟩ := hereC_at hx
      simp at hn

/-! ### An inner row among the arguments -/
theorem subArg_mode : ∀ {ms : List Mode} {as : List AV} {p : Nat × Nat × Nat}, subArg ms as = some p → ms.all isVal = false
  | [], as, p, h => by cases as <;> cases h
  | m :: ms, [], p, h => by cases m <;> cases h
  | m :: ms, v :: l, p, h => by
    simp only [List.all_cons]
    cases m with
    | chg => rfl
    | val => have : subArg ms l = some p := h; rw [subArg_mode this]; simp
    | give => rfl
    | pbox t => rfl
theorem subRep_rel {h h' : List Root} {β β' : Bs} {col col' : Col} {w : World} {n i q m : Nat} (keep : ∀ c x, vrel h β col w c x → vrel h' β' col' w (forget n c) x) :
    ∀ {ms : List Mode} {as : List AV} {vs : List Value}, subArg ms as = some (n, i, q) → vrels h β col w as vs → (∀ x, vrel h β col w (.sub n i q) x → x ∈ vs → vrel h' β' col' w (.ref m) x) →
      vrels h' β' col' w (subRep n m ms as) vs
  | [], as, vs, hs, _, _ => by cases as <;> cases hs
  | m :: ms, [], vs, hs, _, _ => by cases m <;> cases hs
  | _ :: _, _ :: _, [], _, hv, _ => hv.elim
  | md :: ms, a :: l, x :: vs, hs, hv, hx => by
    have all : ∀ {l : List AV} {vs : List Value}, vrels h β col w l vs → vrels h' β' col' w (forgetL n l) vs := by
      intro l
      induction l with
      | nil => intro vs hv; cases vs with
        | nil => trivial
        | cons _ _ => exact hv.elim
      | cons c l ih => intro vs hv; cases vs with
        | nil => exact hv.elim
        | cons y vs => exact ⟨keep c y hv.1, ih hv.2⟩
    have rest : subArg ms l = some (n, i, q) → subRep n m (md :: ms) (a :: l) = forget n a :: subRep n m ms l → vrels h' β' col' w (subRep n m (md :: ms) (a :: l)) (x :: vs) := fun h1 h2 => by
      rw [h2]
      exact ⟨keep a x hv.1, subRep_rel keep h1 hv.2 fun y hy hm => hx y hy (List.mem_cons_of_mem _ hm)⟩
    cases md with
    | chg =>
      cases a with
      | sub n' i' q' =>
        have hs : some (n', i', q') = some (n, i, q) := hs
        cases hs
        exact ⟨hx x hv.1 List.mem_cons_self, all hv.2⟩
      | _ => exact rest hs rfl
    | _ => exact rest hs rfl
theorem subArg_val {h : List Root} {β : Bs} {col : Col} {w : World} {n i q : Nat} : ∀ {ms : List Mode} {as : List AV} {vs : List Value}, subArg ms as = some (n, i, q) → vrels h β col w as vs → ∃ x, vrel h β col w (.sub n i q) x
  | [], as, vs, hs, _ => by cases as <;> cases hs
  | m :: ms, [], vs, hs, _ => by cases m <;> cases hs
  | _ :: _, _ :: _, [], _, hv => hv.elim
  | md :: ms, a :: l, x :: vs, hs, hv => by
    cases md with
    | chg =>
      cases a with
      | sub n' i' q' =>
        have hs : some (n', i', q') = some (n, i, q) := hs
        cases hs
        exact ⟨x, hv.1⟩
      | _ => exact subArg_val (ms := ms) (as := l) hs hv.2
    | _ => exact subArg_val (ms := ms) (as := l) hs hv.2
theorem subRep_ns {n i q m : Nat} : ∀ {ms : List Mode} {as : List AV}, subArg ms as = some (n, i, q) → m ∈ nsOf ms (subRep n m ms as)
  | [], as, hs => by cases as <;> cases hs
  | md :: ms, [], hs => by cases md <;> cases hs
  | md :: ms, a :: l, hs => by
    cases md with
    | chg =>
      cases a with
      | sub n' i' q' => exact List.mem_cons_self
      | _ =>
        have ih := subRep_ns (m := m) (ms := ms) (as := l) hs
        show m ∈ nsOf (.chg :: ms) (forget n _ :: subRep n m ms l)
        generalize forget n _ = z
        cases z <;> first | exact ih | exact List.mem_cons_of_mem _ ih
    | val =>
      have ih := subRep_ns (m := m) (ms := ms) (as := l) hs
      exact ih
    | give =>
      have ih := subRep_ns (m := m) (ms := ms) (as := l) hs
      exact ih
    | pbox t =>
      have ih := subRep_ns (m := m) (ms := ms) (as := l) hs
      show m ∈ nsOf (.pbox t :: ms) (forget n _ :: subRep n m ms l)
      generalize forget n _ = z
      cases z <;> first | exact ih | exact List.mem_cons_of_mem _ ih

/-! ### An inner row that is given away -/
theorem giveArg_mode : ∀ {ms : List Mode} {as : List AV} {p : Nat × Nat × Nat}, giveArg ms as = some p → ms.all isVal = false
  | [], as, p, h => by cases as <;> cases h
  | m :: ms, [], p, h => by cases m <;> cases h
  | m :: ms, v :: l, p, h => by
    simp only [List.all_cons]
    cases m with
    | give => rfl
    | val => have : giveArg ms l = some p := h; rw [giveArg_mode this]; simp
    | chg => rfl
    | pbox t => rfl
theorem giveRep_rel {h h' : List Root} {β β' : Bs} {col col' : Col} {w : World} {n i q m : Nat} (keep : ∀ c x, vrel h β col w c x → vrel h' β' col' w (forgetS1 n c) x) :
    ∀ {ms : List Mode} {as : List AV} {vs : List Value}, giveArg ms as = some (n, i, q) → vrels h β col w as vs → (∀ x, vrel h β col w (.sub n i q) x → x ∈ vs → vrel h' β' col' w (.ref m) x) →
      vrels h' β' col' w (giveRep n m ms as) vs
  | [], as, vs, hs, _, _ => by cases as <;> cases hs
  | m :: ms, [], vs, hs, _, _ => by cases m <;> cases hs
  | _ :: _, _ :: _, [], _, hv, _ => hv.elim
  | md :: ms, a :: l, x :: vs, hs, hv, hx => by
    have all : ∀ {l : List AV} {vs : List Value}, vrels h β col w l vs → vrels h' β' col' w (l.map (forgetS1 n)) vs := by
      intro l
      induction l with
      | nil => intro vs hv; cases vs with
        | nil => trivial
        | cons _ _ => exact hv.elim
      | cons c l ih => intro vs hv; cases vs with
        | nil => exact hv.elim
        | cons y vs => exact ⟨keep c y hv.1, ih hv.2⟩
    have rest : giveArg ms l = some (n, i, q) → giveRep n m (md :: ms) (a :: l) = forgetS1 n a :: giveRep n m ms l → vrels h' β' col' w (giveRep n m (md :: ms) (a :: l)) (x :: vs) := fun h1 h2 => by
      rw [h2]
      exact ⟨keep a x hv.1, giveRep_rel keep h1 hv.2 fun y hy hm => hx y hy (List.mem_cons_of_mem _ hm)⟩
    cases md with
    | give =>
      cases a with
      | sub n' i' q' =>
        have hs : some (n', i', q') = some (n, i, q) := hs
        cases hs
        exact ⟨hx x hv.1 List.mem_cons_self, all hv.2⟩
      | _ => exact rest hs rfl
    | _ => exact rest hs rfl
theorem giveArg_val {h : List Root} {β : Bs} {col : Col} {w : World} {n i q : Nat} : ∀ {ms : List Mode} {as : List AV} {vs : List Value}, giveArg ms as = some (n, i, q) → vrels h β col w as vs → ∃ x, vrel h β col w (.sub n i q) x
  | [], as, vs, hs, _ => by cases as <;> cases hs
  | m :: ms, [], vs, hs, _ => by cases m <;> cases hs
  | _ :: _, _ :: _, [], _, hv => hv.elim
  | md :: ms, a :: l, x :: vs, hs, hv => by
    cases md with
    | give =>
      cases a with
      | sub n' i' q' =>
        have hs : some (n', i', q') = some (n, i, q) := hs
        cases hs
        exact ⟨x, hv.1⟩
      | _ => exact giveArg_val (ms := ms) (as := l) hs hv.2
    | _ => exact giveArg_val (ms := ms) (as := l) hs hv.2

theorem calls_ok {X : Ctx} (hC : ∀ g c, ctrOf X.C g = some c → CtrOk X.P g c) : CallsOk X := by
  intro R r own0 w0 st a w β col g o f args tys as0 ex κ K Q ho hf has S h hK
  unfold callX at h
  split at h
  case h_2 => cases h
  rename_i c fn hc hfn
  have hok := hC g c hc
  split at h
  case h_2 => cases h
  rename_i as hun
  have hfv : ∃ cs, a.eval f = .func (.func g) #[] cs ∧ vrels st.heap β col w ex cs.toList := by
    rcases hf with ⟨hf, rfl⟩ | hf
    · exact ⟨#[], ev_ok S hf, trivial⟩
    · obtain ⟨cs, e, hc⟩ := ev_ok S hf
      exact ⟨cs, e, hc⟩
  obtain ⟨cs, hfv, hcs⟩ := hfv
  obtain ⟨fs, hfit, hv⟩ := ungroup_ok hun (vrels_append (evArgs_ok S has) hcs)
  have hfit : Fits c.grp (args.map a.eval ++ cs).toList fs := by rw [Array.toList_append, Array.toList_map]; exact hfit
  have hval : ∀ q, wrX X q o = false → qFree q = true ∨ c.modes.all isVal = true := by
    intro q hw
    cases hq : qFree q with
    | true => exact .inl rfl
    | false =>
    right
    unfold wrX at hw
    rw [hq, ho] at hw
    simp only [cn] at hw
    cases f with
    | func g' =>
      have hf : g' = g := by rcases hf with ⟨hf, _⟩ | hf <;> simp [ev] at hf; exact hf
      subst hf
      simp only [hc] at hw
      simpa using hw
    | _ => cases hw
  have below : ∀ {w' : World}, (c.modes.all isVal = true → Below w.heap.size w w') → ∀ q, wrX X q o = false → BelowQ q w w' := fun hb q hw => by
    rcases hval q hw with h | h
    · exact .inl h
    · exact BelowQ.of (hb h) q
  simp only at h
  split at h
  · split at h
    · exact callA_ok hok ho hfv hfit hv S h fun st' v w' β' col' h1 h2 _ _ h4 => hK _ _ _ _ _ h1 h2 (below h4)
    · rename_i n i q hsub
      unfold callG at h
      split at h
      case h_2 => cases h
      rename_i s e k xs hs hr
      obtain ⟨h1, h2⟩ := cn_some h
      simp only [Bool.and_eq_true] at h1
      obtain ⟨h1, h3, h4⟩ := h1
      have h3 := Nat.eq_of_beq_eq_true h3
      have h4 := Nat.eq_of_beq_eq_true h4
      subst h3
      rw [lenN_eq st.heap] at h2
      obtain ⟨x, hx⟩ := giveArg_val hsub hv
      obtain ⟨β1, col1, S1, hm, keep⟩ := take_hole S hx hs hr h1 h4
      have hv1 : vrels (takeH n i e k xs s st).heap β1 col1 w (giveRep n st.heap.length c.modes as) fs := giveRep_rel keep hsub hv fun y hy _ => by
        have : y = x := by
          obtain ⟨s0, b, cs, fz, q1, q2, q3, q4, q5, _⟩ := hy
          obtain ⟨s0', b', cs', fz', p1, p2, p3, p4, p5, _⟩ := hx
          rw [q1] at p1; cases p1
          rw [q2] at p2; cases p2
          rw [q4] at p4; cases p4
          rw [q5] at p5; cases p5
          rfl
        rw [this]; exact hm
      refine callA_ok hok ho hfv hfit hv1 S1 h2 fun st2 v w2 β2 col2 h5 S2 _ _ _ => hK _ _ _ _ _ h5 S2 (below fun hb => ?_)
      rw [giveArg_mode hsub] at hb; cases hb
  · rename_i n i q hsub
    unfold callS at h
    split at h
    case h_2 => cases h
    rename_i s e k xs hs hr
    obtain ⟨h1, h2⟩ := cn_some h
    simp only [Bool.and_eq_true] at h1
    rw [lenN_eq] at h2
    obtain ⟨x, hx⟩ := subArg_val hsub hv
    obtain ⟨mb, β1, col1, S1, t1, t2, t3, t4, _, t6, t7⟩ := take_ok S hx hs hr h1.1
    have hv1 : vrels (takeS n s st).heap β1 col1 w (subRep n st.heap.length c.modes as) fs := subRep_rel t7 hsub hv fun y hy _ => by
      have : y = x := by
        obtain ⟨s0, b, cs, fz, q1, q2, q3, q4, q5, _⟩ := hy
        obtain ⟨s0', b', cs', fz', p1, p2, p3, p4, p5, _⟩ := hx
        rw [q1] at p1; cases p1
        rw [q2] at p2; cases p2
        rw [q4] at p4; cases p4
        rw [q5] at p5; cases p5
        rfl
      rw [this]; exact t3
    refine callA_ok hok ho hfv hfit hv1 S1 h2 fun st2 v w2 β2 col2 h3 S2 hkept hnf _ => ?_
    split at h3
    case h_2 => cases h3
    rename_i st3 hst3
    unfold fillT at hst3
    split at hst3
    case h_2 => cases hst3
    rename_i x' ms hden
    cases hst3
    obtain ⟨β3, col3, S3⟩ := fill_ok S hx hr h1.2 S1 t1 t2 t3 t4 t6 S2 hkept (subRep_ns hsub) hnf hden rfl
    refine hK _ _ _ _ _ h3 S3 (below fun hb => ?_)
    rw [subArg_mode hsub] at hb; cases hb
end Go.Proofs.YtlkbmcmglkdciaaE
