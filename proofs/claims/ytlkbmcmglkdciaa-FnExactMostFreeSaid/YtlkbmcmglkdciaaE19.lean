/- Literals, structs, copy; then every operation that is no call. No condition. -/
import Derived.Test.YtlkbmcmglkdciaaE18
set_option linter.unusedVariables false
set_option linter.unusedSectionVars false
set_option linter.unusedSimpArgs false
namespace Go.Proofs.YtlkbmcmglkdciaaE
open Go Go.RowKit

theorem foldl_set (off : Nat) : ∀ (l : List Value) (k : Nat) (cells : Array Value), off + k + l.length ≤ cells.size →
    ((l.zipIdx k).foldl (fun (cs : Array Value) (x : Value × Nat) => cs.setIfInBounds (off + x.2) x.1) cells).toList = setAt cells.toList (off + k) l
  | [], k, cells, _ => by simp [setAt]
  | v :: l, k, cells, h => by
    simp only [List.length_cons] at h
    simp only [List.zipIdx_cons, List.foldl_cons]
    rw [foldl_set off l (k + 1) _ (by simp; omega)]
    simp only [Array.toList_setIfInBounds]
    exact setAt_cons (by simp; omega)
theorem fill_step (place : Nat → Option (Nat × Nat)) {i off size : Nat} {v : Value} {cells : Array Value} (hp : place i = some (off, size)) (hs : v.cells.size = size) (hb : off + v.cells.size ≤ cells.size) (rest : List (Nat × Value)) :
    ∃ cells' : Array Value, Instr.fill place cells ((i, v) :: rest) = Instr.fill place cells' rest ∧ cells'.toList = setAt cells.toList off v.cells.toList ∧ cells'.size = cells.size := by
  refine ⟨v.cells.zipIdx.foldl (fun cs (c, j) => cs.setIfInBounds (off + j) c) cells, ?_, ?_, ?_⟩
  · conv => lhs; unfold Instr.fill
    simp only [hp]
    rw [if_neg (by simp; omega)]
  · have := foldl_set off v.cells.toList 0 cells (by simpa using hb)
    rw [← Array.foldl_toList]
    simp only [Array.toList_zipIdx]
    simpa using this
  · have e : ∀ (l : List (Value × Nat)) (cells : Array Value), (l.foldl (fun (cs : Array Value) (x : Value × Nat) => cs.setIfInBounds (off + x.2) x.1) cells).size = cells.size := by
      intro l
      induction l with
      | nil => intro cells; rfl
      | cons x l ih => intro cells; rw [List.foldl_cons, ih]; simp
    rw [← Array.foldl_toList]
    exact e _ _

section
variable {own0 : Own} {w0 W : World} {st : St} {a : Act} {w : World} {β : Bs} {col : Col} {P : Program} {o : Oper}

/-- The parts of a literal, and what stands for them. -/
def prel (h : List Root) (β : Bs) (col : Col) (w : World) : List (Nat × AV) → List (Nat × Value) → Prop
  | [], [] => True
  | (i, v) :: l, (j, x) :: l' => i = j ∧ vrel h β col w v x ∧ prel h β col w l l'
  | _, _ => False
theorem evParts_ok (S : Sat own0 w0 st a w β col) : ∀ {l : List (Nat × Operand)} {vs : List (Nat × AV)}, evParts st l = some vs → prel st.heap β col w vs (l.map fun x => (x.1, a.eval x.2))
  | [], _, h => by cases h; trivial
  | (i, x) :: l, vs, h => by
    simp only [evParts] at h
    split at h
    · rename_i v vs' h1 h2
      cases h
      exact ⟨rfl, ev_ok S h1, evParts_ok S h2⟩
    · cases h
theorem retypes_ok {h : List Root} {e : Nat} : ∀ {l l' : List (Nat × AV)} {vs : List (Nat × Value)}, retypes P e l = some l' → prel h β col w l vs → prel h β col w l' vs
  | [], _, vs, hr, hp => by cases hr; exact hp
  | (i, v) :: l, l', vs, hr, hp => by
    simp only [retypes] at hr
    split at hr
    · rename_i v' l2 h1 h2
      cases hr
      cases vs with
      | nil => exact hp.elim
      | cons x vs => exact ⟨hp.1, retype_ok hp.2.1 h1, retypes_ok h2 hp.2.2⟩
    · cases hr

theorem litEls_ok (S : Sat own0 w0 st a w β col) {k : Kind} : ∀ {l : List (Nat × AV)} {vs : List (Nat × Value)} {i : Nat} {xs : List k.den} {ms : List Nat}, litEls st.heap k i l = some (xs, ms) → prel st.heap β col w l vs →
    xs.length = l.length ∧ (∀ m ∈ ms, ∃ s, rowsOf st.heap m = some s) ∧ ∃ L : List Value, L.length = xs.length * k.sz ∧ (∀ j, ∀ h : j < xs.length, rep w (fun g => g ∈ mbl β ms) k xs[j] ((L.drop (j * k.sz)).take k.sz) ∧ inK w (fun g => g ∈ mbl β ms) k ((L.drop (j * k.sz)).take k.sz)) ∧
      (∃ b, b.Sublist (mbl β ms) ∧ (L.filterMap blk).Perm b) ∧
      ∀ cells : Array Value, i * k.sz + L.length ≤ cells.size → ∃ cells' : Array Value, Instr.fill (fun i => some (i * k.sz, k.sz)) cells vs = some cells' ∧ cells'.toList = setAt cells.toList (i * k.sz) L ∧ cells'.size = cells.size
  | [], vs, i, xs, ms, h, hp => by
    cases h
    cases vs with
    | cons _ _ => exact hp.elim
    | nil => exact ⟨rfl, fun m hm => (by cases hm), [], by simp, fun j hj => (by cases hj), ⟨[], List.Sublist.refl _, List.Perm.refl _⟩, fun cells _ => ⟨cells, rfl, by simp [setAt], rfl⟩⟩
  | (j, v) :: l, vs, i, xs, ms, h, hp => by
    simp only [litEls] at h
    obtain ⟨h1, h2⟩ := cn_some h
    simp only [Bool.and_eq_true] at h1
    have hij := Nat.eq_of_beq_eq_true h1.1
    subst hij
    split at h2
    case h_2 => cases h2
    rename_i x m1 hd
    split at h2
    case h_2 => cases h2
    rename_i xs' m2 hl
    cases h2
    cases vs with
    | nil => exact hp.elim
    | cons y vs =>
      obtain ⟨jj, y⟩ := y
      obtain ⟨rfl, hv, hp'⟩ := hp
      obtain ⟨l1, r1, L, l2, rp, ⟨b, hb1, hb2⟩, hfill⟩ := litEls_ok S hl hp'
      have hcs := cells_of hv h1.2
      have hlc := vrels_len hcs
      obtain ⟨⟨hrep, hink⟩, bb, hsub, hperm⟩ := denAt_ok S (Z0 := fun _ => False) hd hlc (fun j v c hj hc => by
        have hv' : cellOk1 v = true := by
          have := h1.2
          rw [List.all_eq_true] at this
          exact this v (List.mem_of_getElem? hj)
        obtain ⟨c', hc', hrel⟩ := vrels_get hcs hj
        rw [hc] at hc'; cases hc'
        exact ⟨fun e => (by subst e; cases hv'), fun _ => hrel⟩)
      have hyl := rep_len hrep
      have hk0 : kept v.cells y.cells.toList = [] := by
        have : ∀ (l : List AV) (vs : List Value), l.all cellOk1 = true → kept l vs = [] := by
          intro l
          induction l with
          | nil => intro vs _; rfl
          | cons q l ih =>
            intro vs hh
            simp only [List.all_cons, Bool.and_eq_true] at hh
            cases vs with
            | nil => rfl
            | cons u vs =>
              simp only [kept, ih vs hh.2]
              cases q <;> first | rfl | (cases hh.1; done)
        exact this _ _ h1.2
      have hysz : y.cells.size = k.sz := by simpa using hyl
      refine ⟨by simp [l1], fun m hm => ?_, y.cells.toList ++ L, by simp [hysz, l2, Nat.add_mul]; omega, fun q hq => ?_, ⟨bb ++ b, ?_, ?_⟩, fun cells hc => ?_⟩
      · rcases List.mem_append.1 hm with hm | hm
        · exact denAt_rows hd m hm
        · exact r1 m hm
      · cases q with
        | zero =>
          simp only [Nat.zero_mul, List.drop_zero]
          rw [List.take_append_of_le_length (by omega), List.take_of_length_le (by omega)]
          refine ⟨rep_mono (fun g ob hg hob => ⟨?_, hob⟩) hrep, inK_mono (fun g ob hg hob => ⟨?_, hob⟩) hink⟩
          all_goals
            rw [mbl_append]
            exact List.mem_append.2 (.inl (hg.resolve_left id))
        | succ q =>
          have : (y.cells.toList ++ L).drop ((q + 1) * k.sz) = L.drop (q * k.sz) := by
            rw [List.drop_append, List.drop_of_length_le (by rw [hyl, Nat.succ_mul]; omega), List.nil_append, hyl, Nat.succ_mul, Nat.add_sub_cancel]
          rw [this]
          refine ⟨rep_mono (fun g ob hg hob => ⟨?_, hob⟩) (rp q (by simpa using hq)).1, inK_mono (fun g ob hg hob => ⟨?_, hob⟩) (rp q (by simpa using hq)).2⟩
          all_goals
            rw [mbl_append]
            exact List.mem_append.2 (.inr hg)
      · rw [mbl_append]; exact hsub.append hb1
      · rw [List.filterMap_append]
        rw [hk0, List.nil_append] at hperm
        exact hperm.append hb2
      · simp only [List.length_append, hyl] at hc
        obtain ⟨c1, e1, e2, e3⟩ := fill_step (fun i => some (i * k.sz, k.sz)) (i := i) (v := y) (cells := cells) rfl hysz (by omega) vs
        obtain ⟨c2, f1, f2, f3⟩ := hfill c1 (by rw [e3, Nat.succ_mul]; omega)
        refine ⟨c2, by rw [e1]; exact f1, ?_, by omega⟩
        rw [f2, e2]
        have hlen : i * k.sz + (y.cells.toList ++ L).length ≤ cells.toList.length := by simp [hysz]; omega
        apply List.ext_getElem?
        intro q
        simp only [setAt, List.append_assoc]
        have hA : (cells.toList.take (i * k.sz)).length = i * k.sz := by simp; omega
        have hB : (cells.toList.take (i * k.sz) ++ (y.cells.toList ++ cells.toList.drop (i * k.sz + y.cells.toList.length))).take ((i + 1) * k.sz) = cells.toList.take (i * k.sz) ++ y.cells.toList := by
          rw [← List.append_assoc, List.take_append_of_le_length (by simp [hysz, Nat.succ_mul]; omega), List.take_of_length_le (by simp [hysz, Nat.succ_mul]; omega)]
        have hC : (cells.toList.take (i * k.sz) ++ (y.cells.toList ++ cells.toList.drop (i * k.sz + y.cells.toList.length))).drop ((i + 1) * k.sz + L.length) = cells.toList.drop (i * k.sz + (y.cells.toList.length + L.length)) := by
          rw [← List.append_assoc, List.drop_append, List.drop_of_length_le (by simp [hysz, Nat.succ_mul]; omega), List.nil_append, List.drop_drop]
          congr 1
          simp [hysz, Nat.succ_mul]
          omega
        rw [hB, hC]
        simp [List.append_assoc]

theorem setAt_all {l vs : List Value} (h : vs.length = l.length) : setAt l 0 vs = vs := by
  simp [setAt, List.drop_of_length_le (show l.length ≤ vs.length by omega)]

theorem do_lit (S : Sat own0 w0 st a w β col) {t len : Nat} {parts : Array (Nat × Operand)} (ho : o.op = .buildSlice t len parts) {v : AV} {st' : St} (h : stepX P o st = some (true, v, st')) :
    Does P own0 w0 o a w β col st v st' := by
  unfold stepX at h
  rw [ho] at h
  simp only at h
  split at h
  case h_2 => cases h
  rename_i l hl
  have hp := evParts_ok S hl
  unfold stLit at h
  split at h
  case h_2 => cases h
  rename_i e k hs
  obtain ⟨hu, hsz⟩ := slT_ok hs
  split at h
  case h_2 => cases h
  rename_i k' zz l' hz hre
  have hp := retypes_ok hre hp
  split at h
  case h_2 => cases h
  rename_i hk xs ms hkk hli
  obtain ⟨hk⟩ := hk
  subst hk
  obtain ⟨h1, h2⟩ := cn_some h
  simp only [Bool.and_eq_true] at h1
  have hlen := Nat.eq_of_beq_eq_true h1.1
  rw [lenN_eq] at hlen
  have hbig := Nat.le_of_ble_eq_true h1.2.1
  obtain ⟨_, rfl, rfl⟩ := ok1_eq h2
  obtain ⟨rfl, ti, z, i1, i2, i3, i4, i5⟩ := zeroT_ok hz
  obtain ⟨q1, q2, L, q3, q4, ⟨b, q5, q6⟩, q7⟩ := litEls_ok S hli hp
  have hpos := sz_pos k'
  have hLl : L.length = len * k'.sz := by rw [q3, q1, hlen]
  let base : Array Value := (Array.range (len * k'.sz)).map ((if len * k'.sz = 0 then (#[] : Array Value) else z.cells)[· % (if len * k'.sz = 0 then (#[] : Array Value) else z.cells).size]!)
  obtain ⟨cs, f1, f2, f3⟩ := q7 base (by simp [base, hLl])
  have hbase : base.size = len * k'.sz := by simp [base]
  have hcs : cs.toList = L := by
    rw [f2, Nat.zero_mul]
    exact setAt_all (by simp [hbase, hLl])
  have S1 := S.kills ms
  have S2 := S1.recolor (p := fun g => g ∈ mbl β ms) (st.heap.length, false) (fun g hg => by
    obtain ⟨m, hm, _, _, _, hc⟩ := mbl_col S q2 hg
    obtain ⟨s, hs⟩ := q2 m hm
    exact ⟨m, true, live_ne S.zero (rowOf_get hs) (by simp), hc, .inl (kills_dead (.inr ⟨hm, getN_lt (rowOf_get hs)⟩))⟩)
  have hg := World.with_grew w (.cells cs e)
  have hseg : seg cs 0 (xs.length * k'.sz) = L := by
    simp only [seg, List.drop_zero, hcs]
    exact List.take_of_length_le (by omega)
  obtain ⟨β', col', S', hk, hv⟩ := S2.pushRow (e := e) (k := k') (xs := xs) (cs := cs) hg (fun j _ h => by simp at h) (by rw [f3, hbase]; rw [q1, hlen]; exact Nat.le_refl _)
    (fun col' hc i hi => by
      rw [kills_len]
      have := (q4 i hi).1
      have e1 : seg cs (i * k'.sz) k'.sz = (L.drop (i * k'.sz)).take k'.sz := by simp only [seg, hcs]
      rw [e1]
      refine rep_mono (fun g ob hg' hob => ⟨?_, hg.old hob⟩) this
      unfold inner
      rw [hc g (Array.getElem?_eq_some_iff.1 hob).1]
      exact recol_yes hg')
    (fun col' hc => .inr ⟨by
      rw [hseg]
      exact (List.Perm.nodup_iff q6).2 ((mbl_nodup S q2 (nodupN_ok h1.2.2)).sublist q5), fun i hi => by
      rw [kills_len, Nat.zero_add]
      have := (q4 i hi).2
      have e1 : seg cs (i * k'.sz) k'.sz = (L.drop (i * k'.sz)).take k'.sz := by simp only [seg, hcs]
      rw [e1]
      refine inK_mono (fun g ob hg' hob => ⟨?_, hg.old hob⟩) this
      unfold inner
      rw [hc g (Array.getElem?_eq_some_iff.1 hob).1]
      exact recol_yes hg'⟩)
  refine Does.value' S (s := Instr.buildSlice t len (parts.map fun (i, x) => (i, a.eval x))) (by unfold execOp; rw [ho]) ⟨_, _, β', col', ?_, S', hv len (by rw [q1, hlen]; exact Nat.le_refl _) (by rw [f3, hbase]; exact Nat.le_refl _), hg.below⟩
  unfold Instr.buildSlice
  rw [run_und hu]
  show (sizeOf e >>= _).run P w = _
  rw [run_size (by omega), hsz]
  rw [if_neg (by omega)]
  have hfill : Instr.fill (fun i => some (i * k'.sz, k'.sz)) base (parts.map fun (i, x) => (i, a.eval x)).toList = some cs := by
    rw [Array.toList_map]; exact f1
  by_cases h0 : len * k'.sz = 0
  · rw [if_pos h0]
    simp only [pure_bind]
    have : ((Array.range (len * k'.sz)).map fun x => (#[] : Array Value)[x % (#[] : Array Value).size]!) = base := by simp only [base, if_pos h0]
    rw [this, hfill]
    rw [run_then (run_newRow w)]
    rw [show xs.length = len by omega]
    rfl
  · rw [if_neg h0]
    simp only [bind_assoc, pure_bind]
    rw [run_then (run_zero i1 i2 w)]
    have : ((Array.range (len * k'.sz)).map fun x => z.cells[x % z.cells.size]!) = base := by simp only [base, if_neg h0]
    rw [this, hfill]
    rw [run_then (run_newRow w)]
    rw [show xs.length = len by omega]
    rfl

theorem run_mapM {α β : Type} {P : Program} {w : World} {g : α → Sem β} {h : α → β} : ∀ (l : List α), (∀ x ∈ l, (g x).run P w = .ok (h x) w) → (l.mapM g).run P w = .ok (l.map h) w
  | [], _ => rfl
  | x :: l, hx => by
    rw [List.mapM_cons, run_then (hx x (by simp)), run_then (run_mapM l (fun y hy => hx y (List.mem_cons_of_mem _ hy)))]
    rfl

theorem buildC_ok {t : Nat} {fs : Array Field} (hu : P.underlying t = some (.struct fs)) : ∀ {l : List (Nat × AV)} {vs : List (Nat × Value)} {ws ws' : List AV} {cells : Array Value}, buildC P t ws l = some ws' → prel st.heap β col w l vs → vrels st.heap β col w ws cells.toList →
    ∃ cells' : Array Value, Instr.fill ((fs.map fun f => (f.offset, P.cellsOf f.type))[·]?) cells vs = some cells' ∧ vrels st.heap β col w ws' cells'.toList
  | [], vs, ws, ws', cells, h, hp, hv => by
    cases vs with
    | nil => cases h; exact ⟨cells, rfl, hv⟩
    | cons _ _ => exact hp.elim
  | (f, x) :: l, vs, ws, ws', cells, h, hp, hv => by
    cases vs with
    | nil => exact hp.elim
    | cons y vs =>
      obtain ⟨j, y⟩ := y
      obtain ⟨rfl, hxy, hp'⟩ := hp
      simp only [buildC] at h
      split at h
      case h_2 => cases h
      rename_i off ft hf
      obtain ⟨fs', fld, k1, k2, k3, k4, k5⟩ := fieldOf_ok hf
      rw [hu] at k1; cases k1
      split at h
      case h_2 => cases h
      rename_i x' hre
      have hxy := retype_ok hxy hre
      obtain ⟨h1, h2⟩ := cn_some h
      simp only [Bool.and_eq_true] at h1
      have e1 := Nat.eq_of_beq_eq_true h1.1
      have e2 := Nat.le_of_ble_eq_true h1.2.2
      rw [lenN_eq] at e1 e2
      rw [lenN_eq] at e2
      have hcs := cells_of hxy h1.2.1
      have hl1 := vrels_len hcs
      have hl2 := vrels_len hv
      simp only [Array.length_toList] at hl1 hl2
      obtain ⟨c1, g1, g2, g3⟩ := fill_step ((fs.map fun f => (f.offset, P.cellsOf f.type))[·]?) (i := f) (off := off) (size := P.cellsOf ft) (v := y) (cells := cells) (by simp [k2, k4, k5]) (by omega) (by omega) vs
      have hsp : splice ws off x'.cells = ws.take off ++ x'.cells ++ ws.drop (off + x'.cells.length) := by simp [splice, takeN_eq, dropN_eq, lenN_eq]
      have hrel : vrels st.heap β col w (splice ws off x'.cells) c1.toList := by
        rw [hsp, g2]
        unfold setAt
        rw [show y.cells.toList.length = x'.cells.length by simp; omega]
        exact vrels_append (vrels_append (vrels_take _ hv) hcs) (vrels_drop _ hv)
      obtain ⟨c2, r1, r2⟩ := buildC_ok hu h2 hp' hrel
      exact ⟨c2, by rw [g1]; exact r1, r2⟩

theorem do_build (S : Sat own0 w0 st a w β col) {t : Nat} {parts : Array (Nat × Operand)} (ho : o.op = .build t parts) {v : AV} {st' : St} (h : stepX P o st = some (true, v, st')) :
    DoesP P own0 w0 o a w β col st v st' := by
  unfold stepX at h
  rw [ho] at h
  simp only at h
  split at h
  case h_2 => cases h
  rename_i k ws l hz hl
  have hp := evParts_ok S hl
  split at h
  case h_2 => cases h
  rename_i ws' hb
  obtain ⟨h1, h2⟩ := cn_some h
  obtain ⟨_, rfl, rfl⟩ := ok1_eq h2
  obtain ⟨rfl, ti, z, i1, i2, i3, i4, i5⟩ := zeroT_ok hz
  unfold isStrT at h1
  split at h1
  case h_2 => cases h1
  rename_i fs hu
  obtain ⟨cs, r1, r2⟩ := buildC_ok (cells := z.cells) hu hb hp (zmatch_ok i3).1
  refine Does.value S (s := Instr.build t (parts.map fun (i, x) => (i, a.eval x))) (by unfold execOp; rw [ho]) ⟨rfl, .agg cs, fun w2 _ => ?_, cs, rfl, r2⟩
  unfold Instr.build
  rw [run_then (run_zero i1 i2 w2)]
  rw [run_und hu]
  have hm : (fs.mapM fun f : Field => (do pure (f.offset, ← sizeOf f.type) : Sem (Nat × Nat))).run P w2 = .ok (fs.map fun f : Field => (f.offset, P.cellsOf f.type)) w2 := by
    rw [Array.mapM_eq_mapM_toList]
    have := run_mapM (P := P) (w := w2) (g := fun f : Field => (do pure (f.offset, ← sizeOf f.type) : Sem (Nat × Nat))) (h := fun f : Field => (f.offset, P.cellsOf f.type)) fs.toList (fun f hf => by
      rw [List.all_eq_true] at h1
      obtain ⟨i, hi⟩ := Option.isSome_iff_exists.1 (h1 f hf)
      simp [sizeOf, typeInfo, program, bind, Sem.bind, Sem.run, hi, pure, Program.cellsOf])
    rw [Sem.run_map, this]
    show Result.ok _ _ = _
    congr 1
    apply Array.ext'; simp
  show ((fs.mapM fun f : Field => (do pure (f.offset, ← sizeOf f.type) : Sem (Nat × Nat))) >>= _).run P w2 = _
  rw [run_then hm]
  have r1' : Instr.fill ((fs.map fun f => (f.offset, P.cellsOf f.type))[·]?) z.cells (parts.map fun (i, x) => (i, a.eval x)).toList = some cs := by rw [Array.toList_map]; exact r1
  rw [r1']
  rfl
end
end Go.Proofs.YtlkbmcmglkdciaaE
