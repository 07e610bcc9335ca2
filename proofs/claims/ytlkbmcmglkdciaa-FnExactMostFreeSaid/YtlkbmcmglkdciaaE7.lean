/- One operation that is no call: what the executor tells is what the model comes to. No condition. -/
import Derived.Test.YtlkbmcmglkdciaaE6
set_option linter.unusedVariables false
set_option linter.unusedSectionVars false
set_option linter.unusedSimpArgs false
namespace Go.Proofs.YtlkbmcmglkdciaaE
open Go Go.RowKit

theorem run_then {P : Program} {w w' : World} {α β : Type} {s : Sem α} {r : α} (h : s.run P w = .ok r w') (f : α → Sem β) : (s >>= f).run P w = (f r).run P w' := by
  rw [Sem.run_bind, h]; rfl
theorem run_value {P : Program} {w w' : World} {s : Sem Value} {r : Value} (h : s.run P w = .ok r w') : (do pure (Next.value (← s)) : Sem Next).run P w = .ok (.value r) w' := by
  rw [run_then h]; rfl
theorem run_skip {P : Program} {w w' : World} {s : Sem Unit} {r : Unit} (h : s.run P w = .ok r w') : (do s; pure Next.skip : Sem Next).run P w = .ok .skip w' := by
  rw [run_then h]; rfl

/-- What was there is as it was: all of it (none), or the blocks of type t (some t). -/
def BelowQ (q : Option Nat) (w w' : World) : Prop :=
  qFree q = true ∨ match q with
  | none => Below w.heap.size w w'
  | some t => w.heap.size ≤ w'.heap.size ∧ ∀ (g : Nat) (cs : Array Value) (fz : Nat × Nat), w.heap[g]? = some (Obj.cells cs t fz) → w'.heap[g]? = w.heap[g]?
theorem BelowQ.of {w w' : World} (h : Below w.heap.size w w') (q : Option Nat) : BelowQ q w w' := by
  refine .inr ?_
  cases q with
  | none => exact h
  | some t => exact ⟨h.size, fun g cs fz hg => h.block g (Array.getElem?_eq_some_iff.1 hg).1⟩
theorem BelowQ.refl (q : Option Nat) (w : World) : BelowQ q w w := BelowQ.of (Below.refl _ _) q
theorem BelowQ.trans {q : Option Nat} {a b c : World} (h : BelowQ q a b) (k : BelowQ q b c) : BelowQ q a c := by
  rcases h with h | h
  · exact .inl h
  rcases k with k | k
  · exact .inl k
  refine .inr ?_
  cases q with
  | none => exact Below.trans h (k.mono h.size)
  | some t => exact ⟨Nat.le_trans h.1 k.1, fun g cs fz hg => by rw [k.2 g cs fz (by rw [h.2 g cs fz hg]; exact hg), h.2 g cs fz hg]⟩
theorem wrQ_not {P : Program} {o : Oper} (hw : wrOp o = true) (ha : appE P o = none) {q : Option Nat} (h : wrQ P q o = false) {w w' : World} : BelowQ q w w' := by
  unfold wrQ at h
  cases hq : qFree q with
  | true => exact .inl hq
  | false =>
  rw [hq] at h
  cases q with
  | none => simp only [cn] at h; rw [hw] at h; cases h
  | some t => simp only [hw, ha, cn] at h; cases h

/-- What is to be shown of an operation: it comes to a value, or to none, in a world that goes with the executor's new memory. -/
def Does (P : Program) (own0 : Own) (w0 : World) (o : Oper) (a : Act) (w : World) (β : Bs) (col : Col) (st : St) (v : AV) (st' : St) : Prop :=
  ∃ x w' β' col', Ran P o a w x w' ∧ Sat own0 w0 st' a w' β' col' ∧ vrel st'.heap β' col' w' v x ∧ (∀ q, wrQ P q o = false → BelowQ q w w')

section
variable {own0 : Own} {w0 : World} {st : St} {a : Act} {w : World} {β : Bs} {col : Col} {P : Program} {o : Oper}

/-- The same of an operation that only looks: its value is the same in every world that is as this one was, below. -/
def DoesP (P : Program) (own0 : Own) (w0 : World) (o : Oper) (a : Act) (w : World) (β : Bs) (col : Col) (st : St) (v : AV) (st' : St) : Prop :=
  st' = st ∧ ∃ x, (∀ w2 : World, nomem o = true ∨ Below w.heap.size w w2 → (execOp a.eval o).run P w2 = .ok (.value x) w2) ∧ vrel st.heap β col w v x
theorem DoesP.does (S : Sat own0 w0 st a w β col) {v : AV} {st' : St} (h : DoesP P own0 w0 o a w β col st v st') : Does P own0 w0 o a w β col st v st' := by
  obtain ⟨rfl, x, h1, h2⟩ := h
  exact ⟨x, w, β, col, .inl (h1 w (.inr (Below.refl _ _))), S, h2, fun q _ => BelowQ.refl q _⟩
theorem Does.value (S : Sat own0 w0 st a w β col) {v : AV} {st' : St} {s : Sem Value} (he : execOp a.eval o = (do pure (Next.value (← s))))
    (h : st' = st ∧ ∃ r, (∀ w2 : World, nomem o = true ∨ Below w.heap.size w w2 → s.run P w2 = .ok r w2) ∧ vrel st.heap β col w v r) : DoesP P own0 w0 o a w β col st v st' := by
  obtain ⟨rfl, r, h1, h2⟩ := h
  exact ⟨rfl, r, fun w2 hB => by rw [he]; exact run_value (h1 w2 hB), h2⟩
theorem Does.valueB (S : Sat own0 w0 st a w β col) {v : AV} {st' : St} {s : Sem Value} (he : execOp a.eval o = (do pure (Next.value (← s)))) (hn : nomem o = false)
    (h : st' = st ∧ ∃ r, (∀ w2 : World, Below w.heap.size w w2 → s.run P w2 = .ok r w2) ∧ vrel st.heap β col w v r) : DoesP P own0 w0 o a w β col st v st' := by
  obtain ⟨rfl, r, h1, h2⟩ := h
  exact Does.value S he ⟨rfl, r, fun w2 hB => h1 w2 (hB.resolve_left (by rw [hn]; decide)), h2⟩
theorem Does.here (S : Sat own0 w0 st a w β col) {v : AV} {st' : St} {x : Value} (he : execOp a.eval o = pure (Next.value x))
    (h : st' = st ∧ vrel st.heap β col w v x) : DoesP P own0 w0 o a w β col st v st' := by
  obtain ⟨rfl, h2⟩ := h
  exact ⟨rfl, x, fun w2 _ => by rw [he]; rfl, h2⟩

theorem do_move (S : Sat own0 w0 st a w β col) {x : Operand} (ho : o.op = .move x ∨ o.op = .assign x) {v : AV} {st' : St} (h : stepX P o st = some (true, v, st')) :
    DoesP P own0 w0 o a w β col st v st' := by
  have h' : (match ev st x with
    | some v => match retype P o.type v with | some v => ok1 v st | none => none
    | none => none) = some (true, v, st') := by rcases ho with ho | ho <;> (unfold stepX at h; rw [ho] at h; exact h)
  split at h'
  · rename_i v0 h1
    split at h'
    · rename_i v1 h2
      obtain ⟨_, rfl, rfl⟩ := ok1_eq h'
      exact Does.here S (x := a.eval x) (by rcases ho with ho | ho <;> (unfold execOp; rw [ho])) ⟨rfl, retype_ok (ev_ok S h1) h2⟩
    · cases h'
  · cases h'

theorem do_pick (S : Sat own0 w0 st a w β col) {c x y : Operand} (ho : o.op = .pick c x y) {v : AV} {st' : St} (h : stepX P o st = some (true, v, st')) :
    DoesP P own0 w0 o a w β col st v st' := by
  unfold stepX at h
  rw [ho] at h
  simp only at h
  split at h
  · rename_i b h1
    have hb : a.eval c = .bool b := ev_ok S h1
    have he : execOp a.eval o = pure (Next.value (if b = true then a.eval x else a.eval y)) := by
      unfold execOp; rw [ho]; simp [hb, asBool]
    split at h
    · rename_i p q h2 h3
      obtain ⟨_, rfl, rfl⟩ := ok1_eq h
      refine Does.here S he ⟨rfl, ?_⟩
      cases b
      · exact ev_ok S h3
      · exact ev_ok S h2
    · rename_i p h2 hne
      obtain ⟨h4, h5⟩ := cn_some h
      obtain ⟨_, rfl, rfl⟩ := ok1_eq h5
      subst h4
      exact Does.here S he ⟨rfl, ev_ok S h2⟩
    · rename_i p h3 hne
      rcases cn_or h with ⟨h4, h5⟩ | ⟨h4, h5⟩
      · cases h5
      · obtain ⟨_, rfl, rfl⟩ := ok1_eq h5
        subst h4
        exact Does.here S he ⟨rfl, ev_ok S h3⟩
    · cases h
  · cases h

theorem do_load (S : Sat own0 w0 st a w β col) {t : Nat} {x : Operand} (ho : o.op = .load t x) {v : AV} {st' : St} (h : stepX P o st = some (true, v, st')) :
    DoesP P own0 w0 o a w β col st v st' := by
  unfold stepX at h
  rw [ho] at h
  simp only at h
  split at h
  · rename_i p h1
    exact Does.valueB S (s := Instr.loadAt t (a.eval x)) (by unfold execOp; rw [ho]) (by unfold nomem; rw [ho]) (load_ok S (ev_ok S h1) h)
  · cases h

theorem do_nilCheck (S : Sat own0 w0 st a w β col) {x : Operand} (ho : o.op = .nilCheck x) {v : AV} {st' : St} (h : stepX P o st = some (true, v, st')) :
    DoesP P own0 w0 o a w β col st v st' := by
  unfold stepX at h
  rw [ho] at h
  simp only at h
  split at h
  · rename_i n i c h1
    obtain ⟨_, rfl, rfl⟩ := ok1_eq h
    have hx := ev_ok S h1
    have hx0 := hx
    obtain ⟨r, b, k1, k2, k3, k4⟩ := hx
    exact Does.here S (x := a.eval x) (by unfold execOp; rw [ho]; simp only [k3]) ⟨rfl, hx0⟩
  · rename_i k xs i c h1
    obtain ⟨_, rfl, rfl⟩ := ok1_eq h
    have hx := ev_ok S h1
    have hx0 := hx
    obtain ⟨g, o', cs, e, fz, k1, k2, k3, k4, k5⟩ := hx
    exact Does.here S (x := a.eval x) (by unfold execOp; rw [ho]; simp only [k4]) ⟨rfl, hx0⟩
  · cases h

theorem run_nil {t e : Nat} {A : Option Addr} {n c : Nat} {X Y : Operand} (hu : P.underlying t = some (.slice e)) (w2 : World) :
    (do eqGuard .eql t X Y (.slice A n c) (.slice none 0 0); Go.binOp .eql t (.slice A n c) (.slice none 0 0) : Sem Value).run P w2 = .ok (.bool A.isNone) w2 := by
  have h1 : (Op.equal t (.slice A n c) (.slice none 0 0)).run P w2 = .ok A.isNone w2 := by
    unfold Op.equal Op.equalIn Op.maxDepth
    show (underlying t >>= _).run P w2 = _
    rw [run_und hu]
    cases A <;> rfl
  have h2 : (do eqGuard .eql t X Y (.slice A n c) (.slice none 0 0); Go.binOp .eql t (.slice A n c) (.slice none 0 0) : Sem Value) = (Op.equal t (.slice A n c) (.slice none 0 0) >>= fun b => pure (.bool b)) := by
    rfl
  rw [h2, run_then h1]
  rfl
theorem stNil_ok {op : BinOp} {t : Nat} {x : AV} {vx vy : Value} {c : Bool} {v : AV} {st' : St}
    (hx : vrel st.heap β col w x vx) (hy : vrel st.heap β col w .nilc vy) (h : stNil P op t x st = some (c, v, st')) (X Y : Operand) :
    st' = st ∧ ∃ r, (∀ w2 : World, Below w.heap.size w w2 → (do eqGuard op t X Y vx vy; Go.binOp op t vx vy : Sem Value).run P w2 = .ok r w2) ∧ vrel st.heap β col w v r := by
  obtain rfl : vy = _ := hy
  unfold stNil at h
  split at h
  · rename_i e e' k hu
    obtain rfl : vx = _ := hx
    simp only [ok1, Option.some.injEq, Prod.mk.injEq] at h
    obtain ⟨_, rfl, rfl⟩ := h
    exact ⟨rfl, _, fun w2 _ => run_nil hu w2, rfl⟩
  · rename_i e e' k xs hu
    obtain ⟨A, q, he, _, hA⟩ := hx
    cases he
    simp only [ok1, Option.some.injEq, Prod.mk.injEq] at h
    obtain ⟨_, rfl, rfl⟩ := h
    refine ⟨rfl, _, fun w2 _ => run_nil hu w2, _, rfl, fun hne => ?_⟩
    rcases hA with rfl | ⟨g, o, cs, e2, fz, rfl, _⟩
    · cases hne
    · rfl
  · cases h
theorem run_bools {t : Nat} {a b : Bool} {X Y : Operand} (hu : P.underlying t = some .bool) (w2 : World) :
    (do eqGuard .eql t X Y (.bool a) (.bool b); Go.binOp .eql t (.bool a) (.bool b) : Sem Value).run P w2 = .ok (.bool (a == b)) w2 ∧
    (do eqGuard .neq t X Y (.bool a) (.bool b); Go.binOp .neq t (.bool a) (.bool b) : Sem Value).run P w2 = .ok (.bool (!(a == b))) w2 := by
  have h1 : (Op.equal t (.bool a) (.bool b)).run P w2 = .ok (a == b) w2 := by
    unfold Op.equal Op.equalIn Op.maxDepth
    show (underlying t >>= _).run P w2 = _
    rw [run_und hu]
    rfl
  have h2 : (do eqGuard .eql t X Y (.bool a) (.bool b); Go.binOp .eql t (.bool a) (.bool b) : Sem Value) = (Op.equal t (.bool a) (.bool b) >>= fun b => pure (.bool b)) := by
    rfl
  have h3 : (do eqGuard .neq t X Y (.bool a) (.bool b); Go.binOp .neq t (.bool a) (.bool b) : Sem Value) = (Op.equal t (.bool a) (.bool b) >>= fun b => pure (.bool (!b))) := by
    rfl
  rw [h2, h3, run_then h1, run_then h1]
  exact ⟨rfl, rfl⟩
theorem stBool_ok {op : BinOp} {t : Nat} {x y : Bool} {vx vy : Value} {c : Bool} {v : AV} {st' : St}
    (hx : vrel st.heap β col w (.bool x) vx) (hy : vrel st.heap β col w (.bool y) vy) (h : stBool P op t x y st = some (c, v, st')) (X Y : Operand) :
    st' = st ∧ ∃ r, (∀ w2 : World, Below w.heap.size w w2 → (do eqGuard op t X Y vx vy; Go.binOp op t vx vy : Sem Value).run P w2 = .ok r w2) ∧ vrel st.heap β col w v r := by
  obtain rfl : vx = _ := hx
  obtain rfl : vy = _ := hy
  unfold stBool at h
  split at h
  · rename_i hu
    simp only [ok1, Option.some.injEq, Prod.mk.injEq] at h
    obtain ⟨_, rfl, rfl⟩ := h
    exact ⟨rfl, _, fun w2 _ => (run_bools hu w2).1, rfl⟩
  · rename_i hu
    simp only [ok1, Option.some.injEq, Prod.mk.injEq] at h
    obtain ⟨_, rfl, rfl⟩ := h
    exact ⟨rfl, _, fun w2 _ => (run_bools hu w2).2, rfl⟩
  · cases h
theorem do_bin (S : Sat own0 w0 st a w β col) {op : BinOp} {t t' : Nat} {x y : Operand} (ho : o.op = .binOp op t x y t') {v : AV} {st' : St} (h : stepX P o st = some (true, v, st')) :
    DoesP P own0 w0 o a w β col st v st' := by
  unfold stepX at h
  rw [ho] at h
  simp only at h
  split at h
  · rename_i p h1 h2
    exact Does.valueB S (s := do eqGuard op t x y (a.eval x) (a.eval y); Go.binOp op t (a.eval x) (a.eval y)) (by unfold execOp; rw [ho]) (by unfold nomem; rw [ho]) (stNil_ok (ev_ok S h1) (ev_ok S h2) h x y)
  · rename_i p q h1 h2
    exact Does.valueB S (s := do eqGuard op t x y (a.eval x) (a.eval y); Go.binOp op t (a.eval x) (a.eval y)) (by unfold execOp; rw [ho]) (by unfold nomem; rw [ho]) (stBool_ok (ev_ok S h1) (ev_ok S h2) h x y)
  · rename_i p q _ _ h1 h2
    exact Does.valueB S (s := do eqGuard op t x y (a.eval x) (a.eval y); Go.binOp op t (a.eval x) (a.eval y)) (by unfold execOp; rw [ho]) (by unfold nomem; rw [ho]) (stBin_ok S (ev_ok S h1) (ev_ok S h2) h rfl t x y)
  · cases h

theorem do_makeFunc (S : Sat own0 w0 st a w β col) {f : Fn} {first cap : Array Operand} (ho : o.op = .makeFunc f first cap) {v : AV} {st' : St} (h : stepX P o st = some (true, v, st')) :
    DoesP P own0 w0 o a w β col st v st' := by
  unfold stepX at h
  rw [ho] at h
  simp only at h
  split at h
  · rename_i g vs h1 h2
    obtain ⟨_, rfl, rfl⟩ := ok1_eq h
    have hfi : first = #[] := Array.toList_eq_nil_iff.1 h1
    subst hfi
    exact Does.here S (x := .func (.func g) #[] (cap.map a.eval)) (by unfold execOp; rw [ho]; show (Instr.makeFunc (.func g) (Array.map a.eval #[]) (cap.map a.eval) >>= _) = _; rw [List.map_toArray]; rfl) ⟨rfl, _, rfl, by rw [Array.toList_map]; exact evs_ok S h2⟩
  · cases h

theorem do_un (S : Sat own0 w0 st a w β col) {op : UnOp} {t : Nat} {x : Operand} (ho : o.op = .unOp op t x) {v : AV} {st' : St} (h : stepX P o st = some (true, v, st')) :
    DoesP P own0 w0 o a w β col st v st' := by
  unfold stepX at h
  rw [ho] at h
  simp only at h
  split at h
  · rename_i b h1
    obtain ⟨_, rfl, rfl⟩ := ok1_eq h
    have hx : a.eval x = .bool b := ev_ok S h1
    exact Does.value S (s := Op.unary .not (a.eval x)) (by unfold execOp; rw [ho]) ⟨rfl, _, fun w2 _ => by rw [hx]; rfl, rfl⟩
  · rename_i k n h1
    obtain ⟨_, rfl, rfl⟩ := ok1_eq h
    have hx : a.eval x = .int k n := ev_ok S h1
    exact Does.value S (s := Op.unary .neg (a.eval x)) (by unfold execOp; rw [ho]) ⟨rfl, _, fun w2 _ => by rw [hx]; rfl, rfl⟩
  · cases h

theorem optInt_ok (S : Sat own0 w0 st a w β col) {x : Option Operand} {y : Option Int} (h : optInt st x = some y) : x.map a.eval = y.map (Value.int .i64) := by
  unfold optInt at h
  split at h
  · cases h; rfl
  · split at h
    · rename_i n h1
      cases h
      have : a.eval _ = Value.int .i64 n := ev_ok S h1
      simp [this]
    · cases h
theorem do_slice (S : Sat own0 w0 st a w β col) {t : Nat} {x : Operand} {lo hi : Option Operand} (ho : o.op = .slice t x lo hi none) {v : AV} {st' : St} (h : stepX P o st = some (true, v, st')) :
    DoesP P own0 w0 o a w β col st v st' := by
  unfold stepX at h
  rw [ho] at h
  simp only at h
  split at h
  · rename_i p l m h1 h2 h3
    exact Does.valueB S (s := Instr.sliceAt t (a.eval x) (lo.map a.eval) (hi.map a.eval) none) (by unfold execOp; rw [ho]; rfl) (by unfold nomem; rw [ho]) (by rw [optInt_ok S h2, optInt_ok S h3]; exact slice_ok S (ev_ok S h1) h)
  · cases h
theorem do_fieldAddr (S : Sat own0 w0 st a w β col) {t f : Nat} {x : Operand} (ho : o.op = .fieldAddr t x f) {v : AV} {st' : St} (h : stepX P o st = some (true, v, st')) :
    DoesP P own0 w0 o a w β col st v st' := by
  unfold stepX at h
  rw [ho] at h
  simp only at h
  split at h
  · rename_i p d ft h1 h2
    split at h
    · rename_i v1 h3
      obtain ⟨_, rfl, rfl⟩ := ok1_eq h
      obtain ⟨fs, y, k1, k2, k3, k4, k5⟩ := fieldOf_ok h2
      obtain ⟨A, hA, hv⟩ := shift_ok (ev_ok S h1) h3
      refine Does.value S (s := Instr.fieldAt t (a.eval x) f) (by unfold execOp; rw [ho]) ⟨rfl, _, fun w2 _ => ?_, hv⟩
      unfold Instr.fieldAt
      rw [run_und k1]
      simp only [k2, hA, Instr.sureAddr, pure_bind]
      unfold fieldPlace
      simp only [bind_assoc]
      rw [run_size k3, if_neg (by omega), ← k4]
      rfl
    · cases h
  · cases h
theorem vrels_take' {vs : List AV} {cs : List Value} {d s : Nat} (hv : vrels st.heap β col w vs cs) : vrels st.heap β col w (takeN s (dropN d vs)) ((cs.drop d).take s) := by
  rw [takeN_eq, dropN_eq]; exact vrels_take _ (vrels_drop _ hv)
theorem do_field (S : Sat own0 w0 st a w β col) {t f : Nat} {x : Operand} (ho : o.op = .field t x f) {v : AV} {st' : St} (h : stepX P o st = some (true, v, st')) :
    DoesP P own0 w0 o a w β col st v st' := by
  unfold stepX at h
  rw [ho] at h
  simp only at h
  split at h
  · rename_i vs d ft h1 h2
    obtain ⟨h3, h4⟩ := cn_some h
    have h3 := Nat.le_of_ble_eq_true h3
    rw [lenN_eq] at h3
    split at h4
    · rename_i v1 h5
      obtain ⟨_, rfl, rfl⟩ := ok1_eq h4
      obtain ⟨fs, y, k1, k2, k3, k4, k5⟩ := fieldOf_ok h2
      obtain ⟨cs, hA, hv⟩ := ev_ok S h1
      refine Does.value S (s := Instr.field t (a.eval x) f) (by unfold execOp; rw [ho]) ⟨rfl, ?_⟩
      unfold Instr.field
      cases hagg : aggT P ft with
      | none => rw [hagg] at h5; simp [asV] at h5
      | some b =>
        rw [hagg] at h5
        have hl := vrels_len hv
        have hr := asV_ok (vrels_take' hv) h5
        rw [k4.symm, k5.symm] at *
        rcases hr with ⟨rfl, hr⟩ | ⟨rfl, z, hz, hr⟩
        · refine ⟨_, fun w2 _ => ?_, hr⟩
          rw [run_und k1]
          simp only [k2, hA, asAgg, pure_bind]
          unfold part
          rw [aggT_run hagg]
          simp only [if_true, bind_assoc]
          rw [run_size k3]
          simp only [pure_bind, Sem.run_pure]
          congr 2
          apply Array.ext'
          simp [List.drop_take]
        · refine ⟨z, fun w2 _ => ?_, hr⟩
          rw [run_und k1]
          simp only [k2, hA, asAgg, pure_bind]
          unfold part
          rw [aggT_run hagg]
          simp only [Bool.false_eq_true, if_false]
          have : cs[y.offset]? = some z := by
            have e : ((cs.toList.drop y.offset).take (P.cellsOf y.type))[0]? = some z := by rw [hz]; rfl
            rw [List.getElem?_take, if_pos k3, List.getElem?_drop] at e
            simpa using e
          rw [this]; rfl
    · cases h4
  · cases h
theorem do_indexAddr (S : Sat own0 w0 st a w β col) {t : Nat} {x i : Operand} (ho : o.op = .indexAddr t x i) {v : AV} {st' : St} (h : stepX P o st = some (true, v, st')) :
    DoesP P own0 w0 o a w β col st v st' := by
  unfold stepX at h
  rw [ho] at h
  simp only at h
  split at h
  · rename_i p kk n h1 h2
    split at h
    · rename_i e k h3
      obtain ⟨k1, k2⟩ := slT_ok h3
      have hi : a.eval i = .int kk n := ev_ok S h2
      exact Does.valueB S (s := Instr.indexAt t (a.eval x) (a.eval i)) (by unfold execOp; rw [ho]) (by unfold nomem; rw [ho]) (by rw [hi]; exact stIndex_ok S k1 k2 (sz_pos k) (ev_ok S h1) h)
    · cases h
  · cases h
theorem do_index (S : Sat own0 w0 st a w β col) {t : Nat} {x i : Operand} (ho : o.op = .index t x i) {v : AV} {st' : St} (h : stepX P o st = some (true, v, st')) :
    DoesP P own0 w0 o a w β col st v st' := by
  unfold stepX at h
  rw [ho] at h
  simp only at h
  split at h
  · rename_i s kk n hu h1 h2
    simp only [Option.some.injEq, Prod.mk.injEq] at h
    obtain ⟨h3, rfl, rfl⟩ := h
    obtain ⟨i0, i1, i2⟩ := inb_ok h3
    have hi : a.eval i = .int kk n := ev_ok S h2
    have hx : a.eval x = .string s := ev_ok S h1
    refine Does.value S (s := Instr.index t (a.eval x) (a.eval i)) (by unfold execOp; rw [ho]) ⟨rfl, .int .u8 ((s.data.getD n.toNat 0).toNat : Int), fun w2 _ => ?_, rfl⟩
    unfold Instr.index
    rw [hi, hx]
    simp only [asIntOf, pure_bind]
    rw [run_und hu]
    have : (if 0 ≤ n then s[n.toNat]? else none) = some (s.data.getD n.toNat 0) := by
      rw [if_pos i0]
      have : n.toNat < s.data.size := i2
      rw [getElem?_pos s n.toNat i2]
      congr 1
      rw [Array.getD, dif_pos this]; rfl
    simp only [this]
    rfl
  · cases h
theorem do_extract (S : Sat own0 w0 st a w β col) {x : Operand} {i : Nat} (ho : o.op = .extract x i) {v : AV} {st' : St} (h : stepX P o st = some (true, v, st')) :
    DoesP P own0 w0 o a w β col st v st' := by
  unfold stepX at h
  rw [ho] at h
  simp only at h
  split at h
  · rename_i vs h1
    split at h
    · rename_i v1 h2
      obtain ⟨_, rfl, rfl⟩ := ok1_eq h
      obtain ⟨cs, hA, hv⟩ := ev_ok S h1
      rw [getN_eq] at h2
      obtain ⟨y, hy, hr⟩ := vrels_get hv h2
      exact Does.value S (s := Instr.extract (a.eval x) i) (by unfold execOp; rw [ho]) ⟨rfl, y, fun w2 _ => by unfold Instr.extract; rw [hA]; simp only; rw [show cs[i]? = some y by simpa using hy]; rfl, hr⟩
    · cases h
  · cases h
end
end Go.Proofs.YtlkbmcmglkdciaaE
