/- copy, onto rows that hold no slices. No condition. -/
import Derived.Test.YtlkbmcmglkdciaaE19
set_option linter.unusedVariables false
set_option linter.unusedSectionVars false
set_option linter.unusedSimpArgs false
namespace Go.Proofs.YtlkbmcmglkdciaaE
open Go Go.RowKit

section
variable {own0 : Own} {w0 W : World} {st : St} {a : Act} {w : World} {β : Bs} {col : Col} {P : Program} {o : Oper}

theorem copyL_len {A : Type} {xs ys : List A} {lo len : Nat} (h : lo + len ≤ xs.length) : (copyL xs lo len ys).length = xs.length := by
  unfold copyL
  simp only [List.length_append, List.length_take, List.length_drop]
  omega
theorem copyL_get {A : Type} {xs ys : List A} {lo len : Nat} (h : lo + len ≤ xs.length) (i : Nat) (hi : i < xs.length) :
    (copyL xs lo len ys)[i]? = if lo ≤ i ∧ i < lo + min len ys.length then ys[i - lo]? else xs[i]? := by
  unfold copyL
  rw [List.append_assoc]
  by_cases h1 : i < lo
  · rw [List.getElem?_append_left (by simp; omega), if_neg (by omega), List.getElem?_take, if_pos h1]
  · rw [List.getElem?_append_right (by simp; omega)]
    have e1 : i - (xs.take lo).length = i - lo := by simp; omega
    rw [e1]
    by_cases h2 : i < lo + min len ys.length
    · rw [if_pos ⟨by omega, h2⟩, List.getElem?_append_left (by simp; omega), List.getElem?_take, if_pos (by omega)]
    · rw [if_neg (by omega), List.getElem?_append_right (by simp; omega), List.getElem?_drop]
      congr 1
      simp; omega
theorem run_copy {tys : Array Nat} {t e : Nat} {A : Option Addr} {len c m : Nat} {vy : Value} {L : List Value} (h0 : tys[0]? = some t) (hu : P.underlying t = some (.slice e)) (hpos : 0 < P.cellsOf e)
    (hlen : Builtin.lenOf vy = pure m) (hfc : ∀ {α : Type} (f : Array Value → Sem α), (Builtin.firstCells (P.cellsOf e) (min m len) vy >>= f).run P w = (f L.toArray).run P w)
    {w' : World} (hst : (match A with | some a => storeCells a L 0 | none => pure ()).run P w = .ok () w') (ty : TypeId) :
    (Builtin.copy_ tys ty #[.slice A len c, vy]).run P w = .ok (.int .i64 (min m len : Nat)) w' := by
  unfold Builtin.copy_
  simp only [h0, List.getElem?_toArray, List.getElem?_cons_zero, List.getElem?_cons_succ]
  show (underlying t >>= _).run P w = _
  rw [run_und hu]
  simp only [hlen]
  show (sizeOf e >>= _).run P w = _
  rw [run_size hpos]
  show (Builtin.firstCells (P.cellsOf e) (min m len) vy >>= _).run P w = _
  rw [hfc]
  cases A with
  | none =>
    simp only [Sem.run_pure, Result.ok.injEq, true_and] at hst
    subst hst
    rfl
  | some a =>
    simp only at hst ⊢
    rw [run_then hst]
    rfl
theorem do_copy (S : Sat own0 w0 st a w β col) {x y : Operand} {t : Nat} {tl : List Nat} {args : Array Operand} {tys : Array Nat} (ho : o.op = .call { callee := .builtin .copy, args := args, argTypes := tys }) (ha : args.toList = [x, y]) (ht : tys.toList = t :: tl)
    {v : AV} {st' : St} (h : (match ev st x, ev st y with | some x, some y => stCopy P t x y st | _, _ => none) = some (true, v, st')) : Does P own0 w0 o a w β col st v st' := by
  have ha' : args = #[x, y] := by cases args; simp_all
  subst ha'
  split at h
  case h_2 => cases h
  rename_i p q hp hq
  have hx := ev_ok S hp
  have hy := ev_ok S hq
  unfold stCopy at h
  split at h
  case h_2 => cases h
  rename_i e k n lo len s hs hw hr
  split at h
  case h_2 => cases h
  rename_i r hrow
  split at h
  case h_2 => cases h
  rename_i ys xs hys hxs
  obtain ⟨h1, h2⟩ := cn_some h
  obtain ⟨_, rfl, rfl⟩ := ok1_eq h2
  simp only [Bool.and_eq_true] at h1
  obtain ⟨hf, he⟩ := h1
  obtain ⟨hu, hsz⟩ := slT_ok hs
  obtain ⟨e1, rfl⟩ := rowK_ok hys
  obtain ⟨e2, rfl⟩ := rowK_ok hxs
  have he : e = e2 := Nat.eq_of_beq_eq_true he
  subst he
  have hpos := sz_pos k
  have hposP : 0 < P.cellsOf e := by omega
  -- the window
  have hwin : lo + len ≤ xs.length ∧ slAt (β n) k.sz lo len (a.eval x) := by
    cases p <;> simp only [winOf] at hw <;> first | (cases hw; done) | skip
    · rename_i n'
      split at hw
      · rename_i s' hs'
        simp only [Option.some.injEq, Prod.mk.injEq] at hw
        obtain ⟨rfl, rfl, rfl⟩ := hw
        rw [hrow] at hs'; cases hs'
        exact ⟨by simp, ref_row hx hrow⟩
      · cases hw
    · simp only [Option.some.injEq, Prod.mk.injEq] at hw
      obtain ⟨rfl, rfl, rfl⟩ := hw
      exact win_row hx hrow
  obtain ⟨hlw, A, c, hxv, hc, hb⟩ := hwin
  obtain ⟨A', c', hyv, _, hyc⟩ := readSl_cells S hy hr
  simp only at hyc hyv
  have hlenY : Builtin.lenOf (a.eval y) = pure ys.length := by rw [hyv]; rfl
  have hm : min ys.length len ≤ ys.length := Nat.min_le_left _ _
  obtain ⟨L, hL, _, hLe⟩ := run_first (w := w) (P := P) (A := A') (n := ys.length) (c := c') (sz := k.sz) (m := min ys.length len) (by
    rcases hyc with h | ⟨g, o, cs, e, fz, h1, h2, h3, _⟩
    · left; rw [h]; rfl
    · exact .inr ⟨g, o, cs, e, fz, h1, h2, h3⟩) hm (fun L => pure L)
  have hfc : ∀ {α : Type} (f : Array Value → Sem α), (Builtin.firstCells (P.cellsOf e) (min ys.length len) (a.eval y) >>= f).run P w = (f L.toArray).run P w := by
    intro α f
    obtain ⟨L2, hL2, hrun, hLe2⟩ := run_first (w := w) (P := P) (A := A') (n := ys.length) (c := c') (sz := k.sz) (m := min ys.length len) (by
      rcases hyc with h | ⟨g, o, cs, e, fz, h1, h2, h3, _⟩
      · left; rw [h]; rfl
      · exact .inr ⟨g, o, cs, e, fz, h1, h2, h3⟩) hm f
    rw [hsz, hyv, hrun]
    congr 2
    by_cases h0 : 0 < min ys.length len
    · rcases hyc with h | ⟨g, o, cs, e, fz, h1, h2, h3, _⟩
      · rw [h] at h0; simp at h0
      · rw [hLe _ _ _ _ _ h1 h2 h0, hLe2 _ _ _ _ _ h1 h2 h0]
    · have : min ys.length len = 0 := by omega
      rw [this, Nat.zero_mul] at hL hL2
      rw [List.length_eq_zero_iff.1 hL, List.length_eq_zero_iff.1 hL2]
  -- the cells that are laid, element by element
  have hLrep : ∀ i, ∀ h : i < min ys.length len, ∃ Z, rep w Z k (ys[i]'(by omega)) ((L.drop (i * k.sz)).take k.sz) := by
    intro i hi
    rcases hyc with h | ⟨g, o, cs, e, fz, h1, h2, h3, h4⟩
    · rw [h] at hi; simp at hi
    · obtain ⟨Z, hz⟩ := h4 i (by omega)
      refine ⟨Z, ?_⟩
      rw [hLe _ _ _ _ _ h1 h2 (by omega), seg_list (by
        have := Nat.mul_le_mul_right k.sz (show i + 1 ≤ min ys.length len by omega)
        exact this)]
      exact hz
  have hone : ∀ v ∈ L, oneC v = true := by
    have hl2 : (ys.take (min ys.length len)).length = min ys.length len := by simp
    refine reps_one (w := w) (k := k) (ys := ys.take (min ys.length len)) (by rw [hl2]; exact hL) (fun i hi => ?_)
    obtain ⟨Z, hz⟩ := hLrep i (by omega)
    exact ⟨Z, by simpa using hz⟩
  have ht0 : tys[0]? = some t := by rw [← Array.getElem?_toList, ht]; rfl
  have hfin : ∀ {w' : World}, (match A with | some a => storeCells a L 0 | none => pure ()).run P w = .ok () w' →
      (execOp a.eval o).run P w = .ok (.value (.int .i64 (min len ys.length : Nat))) w' := by
    intro w' hst
    have e0 : (min len ys.length : Nat) = min ys.length len := Nat.min_comm _ _
    rw [e0]
    refine run_builtin ho (by simp only [Go.builtin, List.map_toArray, List.map_cons, List.map_nil]) (s := Builtin.copy_ tys o.type #[a.eval x, a.eval y]) ?_
    rw [hxv]
    exact run_copy ht0 hu hposP hlenY (fun f => hfc f) hst o.type
  have hclen := copyL_len (ys := ys) hlw
  by_cases h0 : 0 < min ys.length len
  · -- cells are laid
    have hR := rowRel S hrow
    unfold rootRel at hR
    cases hβ : β n with
    | none => rw [hβ] at hb; obtain ⟨_, hc0, _⟩ := hb; omega
    | some b =>
      rw [hβ] at hb hR
      obtain ⟨hA, hS⟩ := hb
      have hA : A = some ⟨b.g, b.o + lo * k.sz, none⟩ := hA.resolve_left (by omega)
      subst hA
      obtain ⟨cs, fz, k1, k2, k3, k4, k5, k6, k7⟩ := hR
      have hLb : L.length ≤ c * k.sz := by rw [hL]; exact Nat.mul_le_mul_right _ (by omega)
      obtain ⟨w', cs', r1, p1, e1, e2⟩ := run_storeCells (P := P) (g := b.g) (o := b.o + lo * k.sz) L 0 k2 (by omega) k4 hone
      rw [Nat.add_zero] at e1
      refine ⟨_, w', β, col, .inl (hfin r1), ?_, rfl, fun q h => wrQ_not (by unfold wrOp; rw [ho]) (by unfold appE; rw [ho]) h⟩
      have hall : b.o + lo * k.sz + L.length ≤ cs.toList.length := by
        have hcl : cs.toList.length = cs.size := rfl
        omega
      refine S.write (r0 := .rows e k xs) (r1 := .rows e k (copyL xs lo len ys)) (rowOf_get hrow) (by simp) (fun g x h => h) hβ k1 k1 p1 ⟨rfl, rfl, hclen.symm⟩ rfl hclen (fun g h => h) (fun g h => h) (fun g h => h) (fun m r _ _ _ g x h => rfl)
        (fun t' => .inr ⟨rfl, .inl fun e' k' xs' h => by cases h; exact hf⟩) (fun _ => ?_)
      unfold rootRel
      rw [hβ]
      refine ⟨cs', fz, k1, p1.here, by rw [e2]; exact k3, by rw [e2]; exact k4, by rw [hclen, e2]; exact k5, fun i hi => ?_, .inl hf⟩
      have hi' : i < xs.length := by rw [← hclen]; exact hi
      have hget := copyL_get (ys := ys) hlw i hi'
      rw [List.getElem?_eq_getElem hi] at hget
      have hsegE : seg cs' (b.o + i * k.sz) k.sz = ((setAt cs.toList (b.o + lo * k.sz) L).drop (b.o + i * k.sz)).take k.sz := by unfold seg; rw [e1]
      by_cases hin : lo ≤ i ∧ i < lo + min len ys.length
      · rw [if_pos hin] at hget
        obtain ⟨j, rfl⟩ : ∃ j, i = lo + j := ⟨i - lo, by omega⟩
        rw [show lo + j - lo = j by omega] at hget
        have hj : j < min ys.length len := by omega
        rw [List.getElem?_eq_getElem (by omega)] at hget
        rw [Option.some.inj hget]
        obtain ⟨Z, hz⟩ := hLrep j hj
        have hj2 : (j + 1) * k.sz ≤ L.length := by rw [hL]; exact Nat.mul_le_mul_right _ (by omega)
        rw [Nat.add_mul] at hj2
        have e5 : seg cs' (b.o + (lo + j) * k.sz) k.sz = (L.drop (j * k.sz)).take k.sz := by
          rw [hsegE]
          apply List.ext_getElem?
          intro q
          simp only [List.getElem?_take, List.getElem?_drop]
          split
          · rename_i hq
            simp only [setAt, List.append_assoc]
            rw [List.getElem?_append_right (by rw [List.length_take, Nat.add_mul]; omega), List.getElem?_append_left (by rw [List.length_take, Nat.add_mul, Nat.min_eq_left (by omega)]; omega)]
            congr 1
            rw [List.length_take, Nat.add_mul, Nat.min_eq_left (by omega)]; omega
          · rfl
        rw [e5]
        exact rep_flat hf hz
      · rw [if_neg hin, List.getElem?_eq_getElem hi'] at hget
        rw [Option.some.inj hget]
        have e5 : seg cs' (b.o + i * k.sz) k.sz = seg cs (b.o + i * k.sz) k.sz := by
          rw [hsegE]
          unfold seg
          refine seg_setAt hall ?_
          rcases Nat.lt_or_ge i lo with h | h
          · right
            have := Nat.mul_le_mul_right k.sz (show i + 1 ≤ lo by omega)
            rw [Nat.add_mul] at this
            omega
          · left
            have h2 : lo + min ys.length len ≤ i := by omega
            have := Nat.mul_le_mul_right k.sz h2
            rw [Nat.add_mul] at this
            rw [hL]; omega
        rw [e5]
        exact rep_flat hf (k6 i hi')
  · -- nothing is laid
    have hm0 : min ys.length len = 0 := by omega
    have hL0 : L = [] := by rw [hm0, Nat.zero_mul] at hL; exact List.length_eq_zero_iff.1 hL
    have hcopy : copyL xs lo len ys = xs := by
      unfold copyL
      rw [Nat.min_comm, hm0]
      simp
    have hst : setN st.heap n (.rows e k (copyL xs lo len ys)) = st.heap := by
      rw [hcopy, setN_eq]
      have hg := rowOf_get hrow
      rw [getN_eq] at hg
      apply List.ext_getElem?
      intro j
      rw [List.getElem?_set]
      split
      · rename_i e; subst e
        split
        · exact hg.symm
        · rename_i h; exact absurd (List.getElem?_eq_some_iff.1 hg).1 h
      · rfl
    rw [hst]
    refine ⟨_, w, β, col, .inl (hfin ?_), S, rfl, fun q h => wrQ_not (by unfold wrOp; rw [ho]) (by unfold appE; rw [ho]) h⟩
    rw [hL0]
    cases A <;> rfl
end
end Go.Proofs.YtlkbmcmglkdciaaE
