/- Operations that make memory. No condition. -/
import Derived.Test.YtlkbmcmglkdciaaE7
set_option linter.unusedVariables false
set_option linter.unusedSectionVars false
set_option linter.unusedSimpArgs false
namespace Go.Proofs.YtlkbmcmglkdciaaE
open Go Go.RowKit

theorem zmatch_ok {h : List Root} {β : Bs} {col : Col} {w : World} : ∀ {l : List AV} {vs : List Value}, zmatch l vs = true → vrels h β col w l vs ∧ l.all cellOk1 = true
  | [], [], _ => ⟨trivial, rfl⟩
  | [], _ :: _, hm => by simp [zmatch] at hm
  | a :: _, [], hm => by cases a <;> simp [zmatch] at hm
  | a :: l, v :: vs, hm => by
    have key : zmatch l vs = true ∧ vrel h β col w a v ∧ cellOk1 a = true := by
      unfold zmatch at hm
      split at hm
      · rename_i e1 e2; cases e1
      · rename_i e1 e2
        cases e1; cases e2
        simp only [Bool.and_eq_true, decide_eq_true_eq] at hm
        obtain ⟨⟨rfl, rfl⟩, h3⟩ := hm
        exact ⟨h3, rfl, rfl⟩
      · rename_i e1 e2
        cases e1; cases e2
        simp only [Bool.and_eq_true, beq_iff_eq] at hm
        obtain ⟨rfl, h3⟩ := hm
        exact ⟨h3, rfl, rfl⟩
      · rename_i e1 e2
        cases e1; cases e2
        simp only [Bool.and_eq_true, decide_eq_true_eq] at hm
        obtain ⟨h1, h3⟩ := hm
        refine ⟨h3, ?_, rfl⟩
        have hb : ∀ s s' : ByteArray, s.data = s'.data → s = s' := fun s s' e => by cases s; cases s'; simp at e; rw [e]
        exact congrArg Value.string (hb _ _ h1).symm
      · rename_i e1 e2
        cases e1; cases e2
        exact ⟨hm, rfl, rfl⟩
      · cases hm
    have ih := zmatch_ok key.1 (h := h) (β := β) (col := col) (w := w)
    exact ⟨⟨key.2.1, ih.1⟩, by simp only [List.all_cons, Bool.and_eq_true]; exact ⟨key.2.2, ih.2⟩⟩
theorem zmatch_append : ∀ {l l' : List AV} {vs : List Value}, zmatch (l ++ l') vs = true → ∃ p q, vs = p ++ q ∧ zmatch l p = true ∧ zmatch l' q = true
  | [], l', vs, h => ⟨[], vs, rfl, rfl, h⟩
  | a :: l, l', [], h => by
    exfalso
    cases a <;> simp [zmatch] at h
  | a :: l, l', v :: vs, h => by
    have key : zmatch (l ++ l') vs = true ∧ ∀ p, zmatch l p = true → zmatch (a :: l) (v :: p) = true := by
      rw [List.cons_append] at h
      unfold zmatch at h
      split at h <;> simp_all [zmatch]
    obtain ⟨p, q, rfl, h1, h2⟩ := zmatch_append key.1
    exact ⟨v :: p, q, rfl, key.2 p h1, h2⟩
theorem zmatch_one {x : AV} {vs : List Value} (h : zmatch [x] vs = true) : ∃ v, vs = [v] ∧ ∀ {h' β col w}, vrel h' β col w x v := by
  have key : ∀ {h' β col w}, vrels h' β col w [x] vs := fun {h' β col w} => (zmatch_ok h).1
  cases vs with
  | nil => exact (key (h' := []) (β := fun _ => none) (col := fun _ => none) (w := default)).elim
  | cons v l => cases l with
    | nil => exact ⟨v, rfl, fun {h' β col w} => (key (h' := h') (β := β) (col := col) (w := w)).1⟩
    | cons _ _ => exact (key (h' := []) (β := fun _ => none) (col := fun _ => none) (w := default)).2.elim
theorem rep_zero {w : World} {Z : Nat → Prop} : ∀ {k : Kind} {vs : List Value}, zmatch (zeroK k) vs = true → rep w Z k k.dflt vs
  | .int k, vs, h => by
    obtain ⟨v, rfl, hv⟩ := zmatch_one h
    exact congrArg (fun x => [x]) (hv (h' := []) (β := fun _ => none) (col := fun _ => none) (w := w) : v = _)
  | .bool, vs, h => by
    obtain ⟨v, rfl, hv⟩ := zmatch_one h
    exact congrArg (fun x => [x]) (hv (h' := []) (β := fun _ => none) (col := fun _ => none) (w := w) : v = _)
  | .str, vs, h => by
    obtain ⟨v, rfl, hv⟩ := zmatch_one h
    exact congrArg (fun x => [x]) (hv (h' := []) (β := fun _ => none) (col := fun _ => none) (w := w) : v = _)
  | .pair a b, vs, h => by
    obtain ⟨p, q, rfl, h1, h2⟩ := zmatch_append h
    exact ⟨p, q, rfl, rep_zero h1, rep_zero h2⟩
  | .sl e k, vs, h => by
    obtain ⟨v, rfl, hv⟩ := zmatch_one h
    obtain rfl : v = _ := hv (h' := []) (β := fun _ => none) (col := fun _ => none) (w := w)
    exact ⟨none, 0, rfl, Nat.le_refl _, .inl rfl⟩
theorem zeroT_ok {P : Program} {t : Nat} {k : Kind} {vs : List AV} (h : zeroT P t = some (k, vs)) :
    vs = zeroK k ∧ ∃ i v, P.info? t = some i ∧ i.zero = some v ∧ zmatch (zeroK k) v.cells.toList = true ∧ i.size = k.sz ∧ v.cells.size = k.sz := by
  unfold zeroT at h
  split at h
  · rename_i k' i h1 h2
    split at h
    · rename_i v h3
      obtain ⟨h4, h5⟩ := cn_some h
      cases h5
      simp only [Bool.and_eq_true] at h4
      exact ⟨rfl, i, v, h2, h3, h4.1.1, Nat.eq_of_beq_eq_true h4.1.2, Nat.eq_of_beq_eq_true h4.2⟩
    · cases h
  · cases h
theorem run_zero {P : Program} {t : Nat} {i : TypeInfo} {v : Value} (h : P.info? t = some i) (hz : i.zero = some v) (w : World) : (zeroValue t).run P w = .ok v w := by
  simp [zeroValue, typeInfo, program, Sem.run, h, hz, bind, Sem.bind, pure]
def World.with (w : World) (o : Obj) : World := { w with heap := w.heap.push o }
theorem World.with_grew (w : World) (o : Obj) : Grew w (World.with w o) o := ⟨rfl, rfl, rfl, rfl⟩
theorem run_newRow {P : Program} {e : Nat} {cs : Array Value} (w : World) : (newRow e cs).run P w = .ok ⟨w.heap.size, 0, none⟩ (World.with w (.cells cs e)) := by
  simp [newRow, newObj, Sem.run, bind, Sem.bind, pure, World.with]

theorem cellOk_of {l : List AV} (h : l.all cellOk1 = true) : l.all cellOk = true := by
  rw [List.all_eq_true] at h ⊢
  intro x hx
  have := h x hx
  cases x <;> simp_all [cellOk, cellOk1]

theorem vrels_imp {h h' : List Root} {β β' : Bs} {col col' : Col} {w w' : World} (keep : ∀ c v, vrel h β col w c v → vrel h' β' col' w' c v) :
    ∀ {l : List AV} {vs : List Value}, vrels h β col w l vs → vrels h' β' col' w' l vs
  | [], [], hv => trivial
  | [], _ :: _, hv => hv.elim
  | _ :: _, [], hv => hv.elim
  | a :: l, v :: vs, hv => ⟨keep _ _ hv.1, vrels_imp keep hv.2⟩
def oneC : Value → Bool
  | .agg _ | .tuple _ => false | _ => true
theorem vrel_one {h : List Root} {β : Bs} {col : Col} {w : World} {v : AV} {x : Value} (hc : cellOk1 v = true) (hv : vrel h β col w v x) : oneC x = true := by
  cases v <;> simp only [cellOk1] at hc <;> first | (cases hc; done) | skip
  · obtain rfl : x = _ := hv; rfl
  · obtain rfl : x = _ := hv; rfl
  · obtain rfl : x = _ := hv; rfl
  · obtain rfl : x = _ := hv; rfl
  · obtain ⟨A, c, hx, _⟩ := hv; cases hx; rfl
  · obtain ⟨s, h1, _, A, c, rfl, h2⟩ := hv; rfl
  · obtain ⟨s, h1, _, h0, A, c, rfl, h2⟩ := hv; rfl
  · obtain rfl : x = _ := hv; rfl
theorem cells_one {x : Value} (h : oneC x = true) : x.cells = #[x] := by
  cases x <;> first | rfl | cases h

section
variable {own0 : Own} {w0 : World} {st : St} {a : Act} {w : World} {β : Bs} {col : Col} {P : Program} {o : Oper}

/-- A new box. -/
theorem Sat.pushBox (S : Sat own0 w0 st a w β col) {t : Nat} {vs : List AV} {cs : Array Value} (hv : vrels st.heap β col w vs cs.toList) (hc : vs.all cellOk = true) :
    ∃ β' col', Sat own0 w0 { st with heap := hpush st.heap (.box t vs) } a (World.with w (.cells cs t)) β' col' ∧
      vrel (hpush st.heap (.box t vs)) β' col' (World.with w (.cells cs t)) (.ptr (lenN st.heap) 0 0) (.pointer (some ⟨w.heap.size, 0, none⟩)) := by
  have hg := World.with_grew w (.cells cs t)
  obtain ⟨β', col', h1, h2, h3⟩ := S.push (r := .box t vs) (b := some ⟨w.heap.size, 0, cs.size⟩) hg (fun x hx => by cases hx; rfl) (by
    intro β' col' hβ hβn hcol hcoln keep
    refine ⟨_, cs, hβn, rfl, hcoln, hg.new, ?_, hc⟩
    exact vrels_imp keep hv)
  refine ⟨β', col', h1, ?_⟩
  rw [lenN_eq]
  exact ⟨_, _, by rw [getN_push, if_neg (by omega), if_pos rfl], h2, by simp, by simp [rlen]⟩

theorem do_alloc (S : Sat own0 w0 st a w β col) {t : Nat} (ho : o.op = .alloc t) {v : AV} {st' : St} (h : stepX P o st = some (true, v, st')) :
    Does P own0 w0 o a w β col st v st' := by
  unfold stepX at h
  rw [ho] at h
  simp only at h
  split at h
  · rename_i k vs hz
    obtain ⟨_, rfl, rfl⟩ := ok1_eq h
    obtain ⟨rfl, i, z, h1, h2, h3, h4, h5⟩ := zeroT_ok hz
    obtain ⟨β', col', S', hv⟩ := S.pushBox (t := t) (cs := z.cells) (zmatch_ok h3).1 (cellOk_of (zmatch_ok (h := st.heap) (β := β) (col := col) (w := w) h3).2)
    refine ⟨_, _, β', col', .inl ?_, S', hv, fun q _ => BelowQ.of (World.with_grew _ _).below q⟩
    unfold execOp
    rw [ho]
    refine run_value (s := Instr.alloc t true (.tuple #[])) ?_
    unfold Instr.alloc
    rw [run_then (run_zero h1 h2 w)]
    show (newRow t z.cells >>= _).run P w = _
    rw [run_then (run_newRow w)]
    rfl
  · cases h

theorem cells_of {v : AV} {x : Value} (hv : vrel st.heap β col w v x) (hc : v.cells.all cellOk1 = true) : vrels st.heap β col w v.cells x.cells.toList := by
  by_cases hagg : ∃ vs, v = .agg vs
  · obtain ⟨vs, rfl⟩ := hagg
    obtain ⟨cs, rfl, h2⟩ := hv
    exact h2
  · have hcells : v.cells = [v] := by cases v <;> first | rfl | (exact absurd ⟨_, rfl⟩ hagg)
    rw [hcells] at hc ⊢
    simp only [List.all_cons, List.all_nil, Bool.and_true] at hc
    rw [cells_one (vrel_one hc hv)]
    exact ⟨hv, trivial⟩
theorem do_box (S : Sat own0 w0 st a w β col) {t : Nat} {x : Operand} (ho : o.op = .box t x) {v : AV} {st' : St} (h : stepX P o st = some (true, v, st')) :
    Does P own0 w0 o a w β col st v st' := by
  unfold stepX at h
  rw [ho] at h
  simp only at h
  split at h
  · rename_i v0 h1
    split at h
    · rename_i v1 h2
      obtain ⟨h3, h4⟩ := cn_some h
      obtain ⟨_, rfl, rfl⟩ := ok1_eq h4
      have hv := retype_ok (ev_ok S h1) h2
      obtain ⟨β', col', S', hv'⟩ := S.pushBox (t := t) (cs := (a.eval x).cells) (cells_of hv h3) (cellOk_of h3)
      refine ⟨_, _, β', col', .inl ?_, S', hv', fun q _ => BelowQ.of (World.with_grew _ _).below q⟩
      unfold execOp
      rw [ho]
      refine run_value (s := Instr.box t (a.eval x)) ?_
      unfold Instr.box newVar
      rw [run_then (run_newRow w)]
      rfl
    · cases h
  · cases h

/-- A new row. -/
theorem Sat.pushRow (S : Sat own0 w0 st a w β col) {e : Nat} {k : Kind} {xs : List k.den} {cs : Array Value} {fz : Nat × Nat} {w' : World} (hg : Grew w w' (.cells cs e fz)) (hfz : unfrozen cs.size fz)
    (hsz : xs.length * k.sz ≤ cs.size)
    (hel : ∀ col' : Col, (∀ g, g < w.heap.size → col' g = col g) → ∀ i, ∀ h : i < xs.length, rep w' (inner col' st.heap.length) k xs[i] (seg cs (i * k.sz) k.sz))
    (hnd : ∀ col' : Col, (∀ g, g < w.heap.size → col' g = col g) → owns w' (inner col' st.heap.length) k xs.length cs 0) :
    ∃ β' col', Sat own0 w0 { st with heap := hpush st.heap (.rows e k xs) } a w' β' col' ∧ (∀ c v, vrel st.heap β col w c v → vrel (hpush st.heap (.rows e k xs)) β' col' w' c v) ∧
      ∀ c, xs.length ≤ c → c * k.sz ≤ cs.size → vrel (hpush st.heap (.rows e k xs)) β' col' w' (.ref (lenN st.heap)) (.slice (some ⟨w.heap.size, 0, none⟩) xs.length c) := by
  obtain ⟨β', col', h1, h2, h3⟩ := S.push (r := .rows e k xs) (b := some ⟨w.heap.size, 0, cs.size⟩) hg (fun x hx => by cases hx; rfl) (by
    intro β' col' hβ hβn hcol hcoln keep
    unfold rootRel
    rw [hβn]
    exact ⟨cs, fz, hcoln, hg.new, rfl, hfz, by simpa using hsz, fun i hi => by rw [Nat.zero_add]; exact hel col' hcol i hi, hnd col' hcol⟩)
  refine ⟨β', col', h1, h3, fun c hc hcs => ?_⟩
  rw [lenN_eq]
  exact ref_mk (s := ⟨e, k, xs⟩) (rowOf_of (by rw [getN_push, if_neg (by omega), if_pos rfl])) ⟨_, _, rfl, hc, by rw [h2]; exact ⟨.inr (by simp), by simpa using hcs⟩⟩
end
end Go.Proofs.YtlkbmcmglkdciaaE
