/- Stores. No condition. -/
import Derived.Test.YtlkbmcmglkdciaaE11
set_option linter.unusedVariables false
set_option linter.unusedSectionVars false
set_option linter.unusedSimpArgs false
namespace Go.Proofs.YtlkbmcmglkdciaaE
open Go Go.RowKit

/-- One block is another one now. -/
structure PutW (w w' : World) (g : Nat) (o : Obj) : Prop where
  os : w'.os = w.os
  tape : w'.tape = w.tape
  output : w'.output = w.output
  size : w'.heap.size = w.heap.size
  here : w'.heap[g]? = some o
  far : ∀ b, b ≠ g → w'.heap[b]? = w.heap[b]?
def setAt (l : List Value) (o : Nat) (vs : List Value) : List Value := l.take o ++ vs ++ l.drop (o + vs.length)
theorem setAt_len {l : List Value} {o : Nat} {vs : List Value} (h : o + vs.length ≤ l.length) : (setAt l o vs).length = l.length := by simp [setAt]; omega
theorem setAt_cons {l : List Value} {o : Nat} {v : Value} {vs : List Value} (h : o + (v :: vs).length ≤ l.length) : setAt (l.set o v) (o + 1) vs = setAt l o (v :: vs) := by
  simp only [List.length_cons] at h
  have e : l.set o v = l.take o ++ v :: l.drop (o + 1) := by rw [List.set_eq_take_append_cons_drop, if_pos (by omega)]
  have h1 : (l.take o).length = o := by simp; omega
  simp only [setAt, e]
  have e1 : (l.take o ++ v :: l.drop (o + 1)).take (o + 1) = l.take o ++ [v] := by
    rw [List.take_append, h1, List.take_of_length_le (by omega)]
    congr 1
    rw [show o + 1 - o = 1 by omega]; rfl
  have e2 : (l.take o ++ v :: l.drop (o + 1)).drop (o + 1 + vs.length) = l.drop (o + (v :: vs).length) := by
    rw [List.drop_append, h1, List.drop_of_length_le (by omega)]
    rw [show o + 1 + vs.length - o = vs.length + 1 by omega]
    simp only [List.nil_append, List.drop_succ_cons, List.drop_drop, List.length_cons]
    congr 1; omega
  rw [e1, e2]; simp
theorem seg_setAt {l : List Value} {o : Nat} {vs : List Value} {p s : Nat} (h : o + vs.length ≤ l.length) :
    (o + vs.length ≤ p ∨ p + s ≤ o) → ((setAt l o vs).drop p).take s = (l.drop p).take s := by
  intro hh
  apply List.ext_getElem?
  intro j
  simp only [List.getElem?_take, List.getElem?_drop]
  split
  · rename_i hj
    simp only [setAt, List.append_assoc]
    rcases hh with h1 | h1
    · rw [List.getElem?_append_right (by simp; omega), List.getElem?_append_right (by simp; omega)]
      simp only [List.length_take, List.getElem?_drop]
      congr 1; omega
    · rw [List.getElem?_append_left (by simp; omega)]
      rw [List.getElem?_take, if_pos (by omega)]
  · rfl
theorem seg_setIn {l : List Value} {o : Nat} {vs : List Value} {p s : Nat} (h : o + vs.length ≤ p + s) (hp : p ≤ o) (hl : p + s ≤ l.length) :
    ((setAt l o vs).drop p).take s = setAt ((l.drop p).take s) (o - p) vs := by
  apply List.ext_getElem?
  intro j
  simp only [List.getElem?_take, List.getElem?_drop]
  by_cases hj : j < s
  · rw [if_pos hj]
    simp only [setAt, List.append_assoc]
    by_cases h1 : p + j < o
    · rw [List.getElem?_append_left (by simp; omega), List.getElem?_append_left (by simp; omega)]
      simp only [List.getElem?_take, List.getElem?_drop]
      rw [if_pos h1, if_pos (by omega), if_pos hj]
    · by_cases h2 : p + j < o + vs.length
      · rw [List.getElem?_append_right (by simp; omega), List.getElem?_append_left (by simp; omega),
          List.getElem?_append_right (by simp; omega), List.getElem?_append_left (by simp; omega)]
        congr 1; simp; omega
      · rw [List.getElem?_append_right (by simp; omega), List.getElem?_append_right (by simp; omega),
          List.getElem?_append_right (by simp; omega), List.getElem?_append_right (by simp; omega)]
        simp only [List.getElem?_drop, List.getElem?_take, List.length_take, List.length_drop]
        rw [if_pos (by omega)]
        congr 1; omega
  · rw [if_neg hj, List.getElem?_eq_none]
    rw [setAt_len]
    · simp; omega
    · simp; omega

theorem run_store1 {P : Program} {w : World} {g o : Nat} {cs : Array Value} {e : Nat} {fz : Nat × Nat} {v : Value} (h : w.heap[g]? = some (.cells cs e fz)) (ho : o < cs.size) (hf : unfrozen cs.size fz) (h1 : oneC v = true) :
    ∃ w', (store ⟨g, o, none⟩ v).run P w = .ok () w' ∧ PutW w w' g (.cells (cs.setIfInBounds o v) e fz) := by
  have hc : w.cell? ⟨g, o, none⟩ = some cs[o] := by rw [cell_at h, Array.getElem?_eq_getElem ho]
  have hfr : w.frozen? ⟨g, o, none⟩ = false := by
    simp only [World.frozen?, h]
    have := hf o ho
    simp only [Bool.and_eq_false_iff, decide_eq_false_iff_not]
    omega
  refine ⟨w.setCell ⟨g, o, none⟩ v, ?_, ?_⟩
  · cases v <;> first | (cases h1; done) | (simp [store, Sem.run, hc, hfr])
  · refine ⟨rfl, rfl, rfl, by simp [World.setCell], ?_, fun b hb => Below.heap_setCell w _ v b hb⟩
    simp [World.setCell, Array.getElem?_modify, h]
theorem PutW.trans {w w' w'' : World} {g : Nat} {o o' : Obj} (h : PutW w w' g o) (k : PutW w' w'' g o') : PutW w w'' g o' :=
  ⟨k.os.trans h.os, k.tape.trans h.tape, k.output.trans h.output, k.size.trans h.size, k.here, fun b hb => (k.far b hb).trans (h.far b hb)⟩
theorem run_storeCells {P : Program} {g o : Nat} {e : Nat} {fz : Nat × Nat} : ∀ (vs : List Value) (i : Nat) {w : World} {cs : Array Value}, w.heap[g]? = some (.cells cs e fz) → o + i + vs.length ≤ cs.size → unfrozen cs.size fz →
    (∀ v ∈ vs, oneC v = true) → ∃ w' cs', (storeCells ⟨g, o, none⟩ vs i).run P w = .ok () w' ∧ PutW w w' g (.cells cs' e fz) ∧ cs'.toList = setAt cs.toList (o + i) vs ∧ cs'.size = cs.size
  | [], i, w, cs, h, _, _, _ => ⟨w, cs, rfl, ⟨rfl, rfl, rfl, rfl, h, fun _ _ => rfl⟩, by simp [setAt], rfl⟩
  | v :: vs, i, w, cs, h, hl, hf, h1 => by
    simp only [List.length_cons] at hl
    obtain ⟨w1, r1, p1⟩ := run_store1 (P := P) h (o := o + i) (by omega) hf (h1 v (by simp))
    obtain ⟨w2, cs2, r2, p2, e2, e3⟩ := run_storeCells (o := o) vs (i + 1) p1.here (by simp; omega) (by simpa using hf) (fun v hv => h1 v (List.mem_cons_of_mem _ hv))
    refine ⟨w2, cs2, ?_, p1.trans p2, ?_, by simpa using e3⟩
    · show (store ((⟨g, o, none⟩ : Addr).add i) v >>= fun _ => storeCells ⟨g, o, none⟩ vs (i + 1)).run P w = _
      rw [add_none, run_then r1]; exact r2
    · rw [e2]
      simp only [Array.toList_setIfInBounds]
      rw [← Nat.add_assoc]
      exact setAt_cons (by simp; omega)

section
variable {h h' : List Root} {β β' : Bs} {col col' : Col} {w w' : World}
mutual
theorem sees_of {p q : Nat → Prop} (hp : ∀ n r, getN h n = some r → r ≠ .dead → p n) (hq : ∀ n s i c y, rowsOf h n = some s → subAt s.k (getAt s.k.dflt s.xs i) c = some y → q n) : ∀ (a : AV) (v : Value), vrel h β col w a v → sees p q a
  | .undef, _, _ | .int _ _, _, _ | .bool _, _, _ | .str _, _, _ | .nilc, _, _ | .nil _ _, _, _ | .row _ _ _, _, _ | .sptr _ _ _ _, _, _ | .fn _, _, _ | .nilp, _, _ | .own _ _ _, _, _ | .mayb _, _, _ => trivial
  | .ref n, v, hv => by obtain ⟨s, h1, h0, _⟩ := hv; exact hp _ _ h1 (nd_of_sz h0)
  | .win n _ _, v, hv => by obtain ⟨s, h1, h0, _⟩ := hv; exact hp _ _ h1 (nd_of_sz h0)
  | .swin n _ _ _ _, v, hv => by obtain ⟨s, b, cs, fz, e', k', ys, A, q', A', h1, _, _, _, hy, _⟩ := hv; exact hq _ _ _ _ _ h1 hy
  | .ptr n _ _, v, hv => by obtain ⟨r, b, h1, h2, h3, h4⟩ := hv; exact hp _ _ h1 (by rintro rfl; simp [rlen] at h4)
  | .sub n _ _, v, hv => by obtain ⟨s, b, cs, fz, h1, _, _, _, _, y, hy⟩ := hv; exact hq _ _ _ _ _ h1 hy
  | .nptr n _ _ _ _, v, hv => by obtain ⟨s, b, cs, fz, e', k', ys, g', o', q', h1, _, _, _, hy, _⟩ := hv; exact hq _ _ _ _ _ h1 hy
  | .agg vs, _, hv => by obtain ⟨cs, _, h2⟩ := hv; exact seesL_of hp hq vs _ h2
  | .tup vs, _, hv => by obtain ⟨cs, _, h2⟩ := hv; exact seesL_of hp hq vs _ h2
  | .clo _ vs, _, hv => by obtain ⟨cs, _, h2⟩ := hv; exact seesL_of hp hq vs _ h2
theorem seesL_of {p q : Nat → Prop} (hp : ∀ n r, getN h n = some r → r ≠ .dead → p n) (hq : ∀ n s i c y, rowsOf h n = some s → subAt s.k (getAt s.k.dflt s.xs i) c = some y → q n) : ∀ (a : List AV) (v : List Value), vrels h β col w a v → seesL p q a
  | [], _, _ => trivial
  | a :: l, v :: vs, hv => ⟨sees_of hp hq a v hv.1, seesL_of hp hq l vs hv.2⟩
  | _ :: _, [], hv => hv.elim
end
theorem cells_sees {p q : Nat → Prop} (hp : ∀ n r, getN h n = some r → r ≠ .dead → p n) : ∀ {l : List AV} {vs : List Value}, l.all cellOk = true → vrels h β col w l vs → seesL p q l
  | [], _, _, _ => trivial
  | a :: l, v :: vs, hc, hv => by
    simp only [List.all_cons, Bool.and_eq_true] at hc
    refine ⟨?_, cells_sees hp hc.2 hv.2⟩
    have hv1 := hv.1
    have hc1 := hc.1
    cases a <;> simp only [cellOk] at hc1 <;> first | (cases hc1; done) | trivial | skip
    · obtain ⟨s, h1, h0, _⟩ := hv1; exact hp _ _ h1 (nd_of_sz h0)
    · obtain ⟨s, h1, h0, _⟩ := hv1; exact hp _ _ h1 (nd_of_sz h0)
  | _ :: _, [], _, hv => hv.elim
end

/-- No view into what lies in root n. -/
def noSub (v : AV) (n : Nat) : Prop := sees (fun _ => True) (fun m => m ≠ n) v
mutual
theorem sees_and {p q p' q' : Nat → Prop} : ∀ (a : AV), sees p q a → sees p' q' a → sees (fun n => p n ∧ p' n) (fun n => q n ∧ q' n) a
  | .undef, _, _ | .int _ _, _, _ | .bool _, _, _ | .str _, _, _ | .nilc, _, _ | .nil _ _, _, _ | .row _ _ _, _, _ | .sptr _ _ _ _, _, _ | .fn _, _, _ | .nilp, _, _ | .own _ _ _, _, _ | .mayb _, _, _ => trivial
  | .ref n, h1, h2 => ⟨h1, h2⟩
  | .win n _ _, h1, h2 => ⟨h1, h2⟩
  | .swin n _ _ _ _, h1, h2 => ⟨h1, h2⟩
  | .ptr n _ _, h1, h2 => ⟨h1, h2⟩
  | .sub n _ _, h1, h2 => ⟨h1, h2⟩
  | .nptr n _ _ _ _, h1, h2 => ⟨h1, h2⟩
  | .agg vs, h1, h2 => seesL_and vs h1 h2
  | .tup vs, h1, h2 => seesL_and vs h1 h2
  | .clo _ vs, h1, h2 => seesL_and vs h1 h2
theorem seesL_and {p q p' q' : Nat → Prop} : ∀ (a : List AV), seesL p q a → seesL p' q' a → seesL (fun n => p n ∧ p' n) (fun n => q n ∧ q' n) a
  | [], _, _ => trivial
  | a :: l, h1, h2 => ⟨sees_and a h1.1 h2.1, seesL_and l h1.2 h2.2⟩
end
mutual
theorem sees_imp {p q p' q' : Nat → Prop} (hp : ∀ n, p n → p' n) (hq : ∀ n, q n → q' n) : ∀ (a : AV), sees p q a → sees p' q' a
  | .undef, _ | .int _ _, _ | .bool _, _ | .str _, _ | .nilc, _ | .nil _ _, _ | .row _ _ _, _ | .sptr _ _ _ _, _ | .fn _, _ | .nilp, _ | .own _ _ _, _ | .mayb _, _ => trivial
  | .ref n, h => hp _ h
  | .win n _ _, h => hp _ h
  | .ptr n _ _, h => hp _ h
  | .swin n _ _ _ _, h => hq _ h
  | .sub n _ _, h => hq _ h
  | .nptr n _ _ _ _, h => hq _ h
  | .agg vs, h => seesL_imp hp hq vs h
  | .tup vs, h => seesL_imp hp hq vs h
  | .clo _ vs, h => seesL_imp hp hq vs h
theorem seesL_imp {p q p' q' : Nat → Prop} (hp : ∀ n, p n → p' n) (hq : ∀ n, q n → q' n) : ∀ (a : List AV), seesL p q a → seesL p' q' a
  | [], _ => trivial
  | a :: l, h => ⟨sees_imp hp hq a h.1, seesL_imp hp hq l h.2⟩
end
theorem forgetS1_or (n : Nat) (v : AV) : forgetS1 n v = .undef ∨ (forgetS1 n v = v ∧ noSub v n) := by
  have ne : ∀ {m : Nat}, Nat.beq m n = false → m ≠ n := fun {m} hb e => by subst e; simp at hb
  cases v
  case sub m i c =>
    simp only [forgetS1]
    cases hb : Nat.beq m n with
    | true => exact .inl rfl
    | false => exact .inr ⟨rfl, ne hb⟩
  case nptr m i c j d =>
    simp only [forgetS1]
    cases hb : Nat.beq m n with
    | true => exact .inl rfl
    | false => exact .inr ⟨rfl, ne hb⟩
  case swin m i c j d =>
    simp only [forgetS1]
    cases hb : Nat.beq m n with
    | true => exact .inl rfl
    | false => exact .inr ⟨rfl, ne hb⟩
  case agg => exact .inl rfl
  case tup => exact .inl rfl
  case clo => exact .inl rfl
  all_goals exact .inr ⟨rfl, trivial⟩
theorem lk_forgetS (n : Nat) : ∀ (l : List (Nat × AV)) (t : Nat), lk (forgetS n l) t = forgetS1 n (lk l t)
  | [], t => rfl
  | (u, v) :: l, t => by
    simp only [forgetS, lk, lk_forgetS n l]
    cases Nat.beq u t <;> rfl

section
variable {own0 : Own} {w0 : World} {st : St} {a : Act} {w : World} {β : Bs} {col : Col} {P : Program} {o : Oper}

/-- Root n's own block is written. -/
theorem Sat.write (S : Sat own0 w0 st a w β col) {n : Nat} {r0 r1 : Root} {b : Base} {w' : World} {ob : Obj} {col' : Col} {env' : List (Nat × AV)}
    (hr0 : getN st.heap n = some r0) (hr0d : r0 ≠ .dead) (h0 : ∀ g x, col g = some (0, x) → col' g = some (0, x)) (hb : β n = some b) (hcb : col b.g = some (n, true)) (hcb' : col' b.g = some (n, true)) (hp : PutW w w' b.g ob)
    (hsh : Shape r0 r1) (hsz : rsz r1 = rsz r0) (hln : rlen r1 = rlen r0)
    (hz : ∀ g, col g = none → col' g = none) (hdom : ∀ g, col' g ≠ none → col g ≠ none) (hzn : ∀ g, col' g = none → col g = none)
    (hlive : ∀ m r, m ≠ n → getN st.heap m = some r → r ≠ .dead → ∀ g x, col g = some (m, x) → col' g = col g)
    (henv : ∀ t, lk env' t = .undef ∨ lk env' t = lk st.env t ∧ ((∀ e k xs, r0 = .rows e k xs → flat k = true) ∨ noSub (lk st.env t) n))
    (hroot : (∀ (l : List AV) (vs : List Value), l.all cellOk = true → vrels st.heap β col w l vs → vrels (setN st.heap n r1) β col' w' l vs) → rootRel (setN st.heap n r1) β col' w' n r1) :
    Sat own0 w0 ⟨env', setN st.heap n r1, st.nt, st.nf⟩ a w' β col' := by
  have zk : Zk col col' w w' := ⟨fun g x hg hx => ⟨hz g hg, by rw [hp.far g (by intro e; subst e; rw [zone, hcb] at hg; cases hg)]; exact hx⟩⟩
  have hlt := getN_lt hr0
  have weak : ∀ m, (∃ r, getN st.heap m = some r ∧ r ≠ .dead) → Weak st.heap (setN st.heap n r1) β β m := by
    intro m hm
    by_cases e : m = n
    · subst e
      refine ⟨rfl, fun r hr => ?_⟩
      · rw [hr0] at hr; cases hr
        exact ⟨r1, by rw [getN_set, if_pos rfl, if_pos hlt], hsz, hln⟩
    · exact ⟨rfl, fun r hr => ⟨r, by rw [getN_set, if_neg e]; exact hr, rfl, rfl⟩⟩
  have same : ∀ m, m ≠ n → ∀ r, getN st.heap m = some r → r ≠ .dead → Same st.heap (setN st.heap n r1) β β col col' w w' m := by
    intro m e r hr hd
    refine ⟨by rw [getN_set, if_neg e], rfl, fun g x hg hx => ?_⟩
    obtain ⟨y, hy⟩ := hg
    refine ⟨hlive m r e hr hd g y hy, ?_⟩
    rw [hp.far g (by intro e'; subst e'; rw [hcb] at hy; cases hy; exact e rfl)]; exact hx
  have cells : ∀ (l : List AV) (vs : List Value), l.all cellOk = true → vrels st.heap β col w l vs → vrels (setN st.heap n r1) β col' w' l vs := fun l vs hc hv =>
    vrels_keep zk (p := fun m => ∃ r, getN st.heap m = some r ∧ r ≠ .dead) (q := fun m => m ≠ n ∧ ∃ s, rowsOf st.heap m = some s) weak (fun m hm => same m hm.1 _ (rowOf_get hm.2.choose_spec) (by simp)) S.heap l vs
      (cells_sees (fun n r hr hd => ⟨r, hr, hd⟩) hc hv) hv
  have hn0 : n ≠ 0 := live_ne S.zero hr0 hr0d
  refine S.move (p := fun m => ∃ r, getN st.heap m = some r ∧ r ≠ .dead) (q := fun m => m ≠ n ∧ ∃ s, rowsOf st.heap m = some s) zk weak (fun m hm => same m hm.1 _ (rowOf_get hm.2.choose_spec) (by simp)) ?_ ?_ ?_ ?_ (by rw [getN_set, if_neg (Ne.symm hn0)]; exact S.zero) (fun g _ h => hzn g h) (fun m r _ hr => by
    by_cases e : m = n
    · subst e
      rw [hr0] at hr; cases hr
      exact ⟨rfl, r1, by rw [getN_set, if_pos rfl, if_pos hlt], hsh⟩
    · exact ⟨rfl, r, by rw [getN_set, if_neg e]; exact hr, Shape.refl r⟩)
  · intro t
    rcases henv t with h | ⟨h1, h2⟩
    · exact .inl h
    · refine .inr ⟨h1, ?_⟩
      rcases h2 with h2 | h2
      · refine sees_of (fun n r hr hd => ⟨r, hr, hd⟩) (fun m s i c y hs hy => ⟨?_, s, hs⟩) _ _ (S.env t)
        rintro rfl
        have := rowOf_get hs
        rw [hr0] at this
        cases this
        rw [subAt_flat _ _ _ (h2 _ _ _ rfl)] at hy
        cases hy
      · have h3 := sees_of (p := fun m => ∃ r, getN st.heap m = some r ∧ r ≠ .dead) (q := fun m => ∃ s, rowsOf st.heap m = some s) (fun n r hr hd => ⟨r, hr, hd⟩) (fun m s i c y hs hy => ⟨s, hs⟩) _ _ (S.env t)
        exact sees_imp (fun _ h => h.2) (fun _ h => h) _ (sees_and _ h2 h3)
  · intro m r hr
    rw [getN_set] at hr
    split at hr
    · rename_i e; subst e
      have : r1 = r := by simpa [hlt] using hr
      subst this
      exact hroot cells
    · rename_i e
      by_cases hd : r = .dead
      · subst hd; trivial
      · refine rootRel_keep (p := fun m => ∃ r, getN st.heap m = some r ∧ r ≠ .dead) (q := fun m => m ≠ n ∧ ∃ s, rowsOf st.heap m = some s) zk weak (fun m hm => same m hm.1 _ (rowOf_get hm.2.choose_spec) (by simp)) S.heap (same m e r hr hd) r (fun t vs e' => ?_) (S.heap m r hr)
        subst e'
        obtain ⟨b', cs, _, _, _, _, k5, k6⟩ := S.heap m _ hr
        exact cells_sees (fun n r hr hd => ⟨r, hr, hd⟩) k6 k5
  · have hown : w0.heap.size ≤ b.g ∨ own0 b.g = 1 := (S.col b.g (by rw [hcb]; simp)).1.resolve_left (fun ⟨x, hx⟩ => by rw [hcb] at hx; cases hx; exact hn0 rfl)
    refine ⟨hp.os.trans S.fr.os, hp.tape.trans S.fr.tape, hp.output.trans S.fr.output, by rw [hp.size]; exact S.fr.size, fun g hg hn => ?_⟩
    rw [hp.far g (by rintro rfl; rcases hown with h | h; exact absurd hg (by omega); exact hn h)]
    exact S.fr.block g hg hn
  · intro g hg
    have := S.col g (hdom g hg)
    exact ⟨this.1.imp (fun ⟨x, hx⟩ => ⟨x, h0 g x hx⟩) id, by rw [hp.size]; exact this.2⟩
end
end Go.Proofs.YtlkbmcmglkdciaaE
