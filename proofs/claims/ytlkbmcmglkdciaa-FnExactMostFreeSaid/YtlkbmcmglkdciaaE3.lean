/- Operations that leave the world alone: each comes to the value that the executor tells. No condition. -/
import Derived.Test.YtlkbmcmglkdciaaE2
import Derived.WalkKit
set_option linter.unusedVariables false
set_option linter.unusedSectionVars false
set_option linter.unusedSimpArgs false
namespace Go.Proofs.YtlkbmcmglkdciaaE
open Go Go.RowKit

def Ran (P : Program) (o : Oper) (a : Act) (w : World) (x : Value) (w' : World) : Prop :=
  (execOp a.eval o).run P w = .ok (.value x) w' ∨ ((execOp a.eval o).run P w = .ok .skip w' ∧ x = undef)

theorem cn_some {A : Type} {b : Bool} {x : Option A} {y : A} (h : cn b x none = some y) : b = true ∧ x = some y := by
  cases b <;> simp_all [cn]
theorem cn_or {A : Type} {b : Bool} {x z y : A} (h : cn b x z = y) : (b = true ∧ x = y) ∨ (b = false ∧ z = y) := by
  cases b <;> simp_all [cn]

section
variable {own0 : Own} {w0 : World} {st : St} {a : Act} {w : World} {β : Bs} {col : Col} {P : Program}

theorem ofConst_ok {x : Value} {v : AV} (h : ofConst x = some v) {h' : List Root} : vrel h' β col w v x := by
  unfold ofConst at h
  split at h <;> cases h <;> rfl
theorem ev_ok (S : Sat own0 w0 st a w β col) {x : Operand} {v : AV} (h : ev st x = some v) : vrel st.heap β col w v (a.eval x) := by
  cases x with
  | tmp t =>
    simp only [ev] at h
    have := S.env t
    split at h
    · cases h
    · cases h; exact this
  | const c => exact ofConst_ok h
  | func f => cases h; rfl
  | global g => cases h
theorem evs_ok (S : Sat own0 w0 st a w β col) : ∀ {l : List Operand} {vs : List AV}, evs st l = some vs → vrels st.heap β col w vs (l.map a.eval)
  | [], _, h => by cases h; trivial
  | x :: l, vs, h => by
    simp only [evs] at h
    split at h
    · rename_i v vs' h1 h2
      cases h
      exact ⟨ev_ok S h1, evs_ok S h2⟩
    · cases h
theorem retype_ok {h : List Root} {t : Nat} {v v' : AV} {x : Value} (hv : vrel h β col w v x) (hr : retype P t v = some v') : vrel h β col w v' x := by
  unfold retype at hr
  split at hr
  · split at hr
    · cases hr; exact hv
    · cases hr
  · cases hr; exact hv

theorem stBin_ok (S : Sat own0 w0 st a w β col) {op : BinOp} {x y : AV} {vx vy : Value} {c : Bool} {v : AV} {st' : St}
    (hx : vrel st.heap β col w x vx) (hy : vrel st.heap β col w y vy) (h : stBin op x y st = some (c, v, st')) (hc : c = true) (t : TypeId) (X Y : Operand) :
    st' = st ∧ ∃ r, (∀ w2 : World, Below w.heap.size w w2 → (do eqGuard op t X Y vx vy; Go.binOp op t vx vy : Sem Value).run P w2 = .ok r w2) ∧ vrel st.heap β col w v r := by
  subst hc
  cases op <;> cases x <;> (try (simp only [stBin] at h; cases h; done)) <;> cases y <;> (try (simp only [stBin] at h; cases h; done)) <;>
    simp only [stBin] at h <;>
    simp only [vrel] at hx hy <;> subst hx <;> subst hy
  all_goals first
    | (obtain ⟨h1, h2⟩ := cn_some h
       have hk := of_decide_eq_true h1
       subst hk
       simp only [ok1, Option.some.injEq, Prod.mk.injEq] at h2
       obtain ⟨h3, rfl, rfl⟩ := h2
       refine ⟨rfl, _, fun w2 _ => ?_, rfl⟩
       simp_all [Go.binOp, eqGuard, Op.intArith, Op.intCmp, Op.intBits, Op.intDiv, Sem.run, pure, bind, Sem.bind]; done)
    | (obtain ⟨h1, h2⟩ := cn_some h
       have hk := of_decide_eq_true h1
       subst hk
       simp only [ok1, Option.some.injEq, Prod.mk.injEq] at h2
       obtain ⟨h3, rfl, rfl⟩ := h2
       refine ⟨rfl, _, fun w2 _ => ?_, rfl⟩
       simp_all [Go.binOp, eqGuard, Op.intArith, Op.intCmp, Op.intBits, Op.intDiv, Sem.run, pure, bind, Sem.bind]
       first | rfl | omega)
    | (simp only [ok1, Option.some.injEq, Prod.mk.injEq] at h
       obtain ⟨h3, rfl, rfl⟩ := h
       refine ⟨rfl, _, fun w2 _ => ?_, rfl⟩
       simp_all [Go.binOp, eqGuard, Op.stringOp, Sem.run, pure, bind, Sem.bind]
       first | omega | (rw [Bool.eq_iff_iff]; simp))
    | (simp only [ok1, Option.some.injEq, Prod.mk.injEq] at h
       obtain ⟨h3, rfl, rfl⟩ := h
       refine ⟨rfl, _, fun w2 _ => ?_, rfl⟩
       simp_all [Go.binOp, eqGuard, Op.shift, Sem.run, pure, bind, Sem.bind]
       intro hneg; omega)
end
end Go.Proofs.YtlkbmcmglkdciaaE
