/- Steps of abstract memory, and that the relation holds behind them. No condition. -/
import Derived.Test.YtlkbmcmglkdciaaE1
set_option linter.unusedVariables false
set_option linter.unusedSectionVars false
set_option linter.unusedSimpArgs false
namespace Go.Proofs.YtlkbmcmglkdciaaE
open Go Go.RowKit

theorem rowOf_get {h : List Root} {n : Nat} {s : Sl} (hs : rowsOf h n = some s) : getN h n = some (.rows s.e s.k s.xs) := by
  simp only [rowsOf] at hs
  split at hs
  · cases hs; assumption
  · cases hs
theorem rowOf_of {h : List Root} {n e : Nat} {k : Kind} {xs : List k.den} (hs : getN h n = some (.rows e k xs)) : rowsOf h n = some ⟨e, k, xs⟩ := by
  simp only [rowsOf, hs]
theorem getN_lt {A : Type} {l : List A} {n : Nat} {x : A} (h : getN l n = some x) : n < l.length := by
  rw [getN_eq] at h; exact (List.getElem?_eq_some_iff.1 h).1

section
variable {h h' : List Root} {β β' : Bs} {col col' : Col} {w w' : World}
theorem ref_row {n : Nat} {v : Value} {s : Sl} (hv : vrel h β col w (.ref n) v) (hs : rowsOf h n = some s) : slAt (β n) s.k.sz 0 s.xs.length v := by
  obtain ⟨r, h1, _, h2⟩ := hv
  rw [rowOf_get hs] at h1; cases h1
  exact h2
theorem win_row {n lo len : Nat} {v : Value} {s : Sl} (hv : vrel h β col w (.win n lo len) v) (hs : rowsOf h n = some s) : lo + len ≤ s.xs.length ∧ slAt (β n) s.k.sz lo len v := by
  obtain ⟨r, h1, _, h2⟩ := hv
  rw [rowOf_get hs] at h1; cases h1
  exact h2
theorem kindSz : ∀ k : Kind, 0 < k.sz
  | .int _ => Nat.one_pos | .bool => Nat.one_pos | .str => Nat.one_pos | .sl _ _ => Nat.one_pos
  | .pair a b => Nat.add_pos_left (kindSz a) _
theorem ref_mk {n : Nat} {v : Value} {s : Sl} (hs : rowsOf h n = some s) (hv : slAt (β n) s.k.sz 0 s.xs.length v) : vrel h β col w (.ref n) v := ⟨_, rowOf_get hs, kindSz _, hv⟩
theorem win_mk {n lo len : Nat} {v : Value} {s : Sl} (hs : rowsOf h n = some s) (hl : lo + len ≤ s.xs.length) (hv : slAt (β n) s.k.sz lo len v) : vrel h β col w (.win n lo len) v := ⟨_, rowOf_get hs, kindSz _, hl, hv⟩
theorem nd_of_sz {r : Root} (hr : 0 < rsz r) : r ≠ .dead := by rintro rfl; simp [rsz] at hr
mutual
/-- A value names roots that are there. -/
theorem vrel_sees : ∀ (a : AV) (v : Value), vrel h β col w a v → sees (· < h.length) (· < h.length) a
  | .undef, _, _ | .int _ _, _, _ | .bool _, _, _ | .str _, _, _ | .nilc, _, _ | .nil _ _, _, _ | .row _ _ _, _, _ | .sptr _ _ _ _, _, _ | .fn _, _, _ | .nilp, _, _ | .own _ _ _, _, _ | .mayb _, _, _ => trivial
  | .ref n, v, hv => by obtain ⟨s, h1, _⟩ := hv; exact getN_lt h1
  | .win n _ _, v, hv => by obtain ⟨s, h1, _⟩ := hv; exact getN_lt h1
  | .swin n _ _ _ _, v, hv => by obtain ⟨s, b, cs, fz, e', k', ys, A, q', A', h1, _⟩ := hv; exact getN_lt (rowOf_get h1)
  | .ptr n _ _, v, hv => by obtain ⟨r, b, h1, _⟩ := hv; exact getN_lt h1
  | .sub n _ _, v, hv => by obtain ⟨s, b, cs, fz, h1, _⟩ := hv; exact getN_lt (rowOf_get h1)
  | .nptr n _ _ _ _, v, hv => by obtain ⟨s, b, cs, fz, e', k', ys, g', o', q', h1, _⟩ := hv; exact getN_lt (rowOf_get h1)
  | .agg vs, _, hv => by obtain ⟨cs, _, h2⟩ := hv; exact vrels_sees vs _ h2
  | .tup vs, _, hv => by obtain ⟨cs, _, h2⟩ := hv; exact vrels_sees vs _ h2
  | .clo _ vs, _, hv => by obtain ⟨cs, _, h2⟩ := hv; exact vrels_sees vs _ h2
theorem vrels_sees : ∀ (a : List AV) (v : List Value), vrels h β col w a v → seesL (· < h.length) (· < h.length) a
  | [], _, _ => trivial
  | a :: l, v :: vs, hv => ⟨vrel_sees a v hv.1, vrels_sees l vs hv.2⟩
  | _ :: _, [], hv => hv.elim
end

theorem rootRel_keep (hz : Zk col col' w w') {p q : Nat → Prop} (hp : ∀ n, p n → Weak h h' β β' n)
    (hq : ∀ n, q n → Same h h' β β' col col' w w' n) (hh : ∀ n r, getN h n = some r → rootRel h β col w n r)
    {n : Nat} (hs : Same h h' β β' col col' w w' n) : ∀ (r : Root), (∀ t vs, r = .box t vs → seesL p q vs) → rootRel h β col w n r → rootRel h' β' col' w' n r
  | .dead, _, _ => trivial
  | .box t vs, hv, hr => by
    obtain ⟨b, cs, h1, h2, h3, h4, h5, h6⟩ := hr
    have hb := hs.blocks b.g _ ⟨_, h3⟩ h4
    exact ⟨b, cs, by rw [hs.base]; exact h1, h2, by rw [hb.1]; exact h3, hb.2, vrels_keep hz hp hq hh vs _ (hv t vs rfl) h5, h6⟩
  | .rows e k xs, _, hr => by
    unfold rootRel at hr ⊢
    rw [hs.base]
    cases hβ : β n with
    | none => rw [hβ] at hr; exact hr
    | some b =>
      rw [hβ] at hr
      obtain ⟨cs, fz, h1, h2, h3, h4, h5, h6, h7⟩ := hr
      have hb := hs.blocks b.g _ ⟨_, h1⟩ h2
      exact ⟨cs, fz, by rw [hb.1]; exact h1, hb.2, h3, h4, h5, fun i hi => rep_mono (fun g o hg ho => by
        have := hs.blocks g o ⟨_, hg⟩ ho
        exact ⟨by unfold inner at hg ⊢; rw [this.1]; exact hg, this.2⟩) (h6 i hi), owns_mono (fun g o hg ho => by
        have := hs.blocks g o ⟨_, hg⟩ ho
        exact ⟨by unfold inner at hg ⊢; rw [this.1]; exact hg, this.2⟩) h7⟩
  | .hol e k xs j, _, hr => by
    obtain ⟨b, cs, fz, h0, h1, h2, h3, h4, h5, h6, h7, h8, h9⟩ := hr
    have hb := hs.blocks b.g _ ⟨_, h1⟩ h2
    have hz2 : ∀ g o, inner col n g → w.heap[g]? = some o → inner col' n g ∧ w'.heap[g]? = some o := fun g o hg ho => by
      have := hs.blocks g o ⟨_, hg⟩ ho
      exact ⟨by unfold inner at hg ⊢; rw [this.1]; exact hg, this.2⟩
    exact ⟨b, cs, fz, by rw [hs.base]; exact h0, by rw [hb.1]; exact h1, hb.2, h3, h4, h5, h6, h7, fun i hi hij => ⟨rep_mono hz2 (h8 i hi hij).1, inK_mono hz2 (h8 i hi hij).2⟩, h9⟩
end

section
variable {own0 : Own} {w0 : World} {st : St} {a : Act} {w : World} {β : Bs} {col : Col}

theorem Sat.fixed (S : Sat own0 w0 st a w β col) {h' : List Root} {β' : Bs} (hf : ∀ n r, n < st.nf → getN st.heap n = some r → β' n = β n ∧ ∃ r', getN h' n = some r' ∧ Shape r r') :
    ∀ n b r, own0.fx n = some (b, r) → n < st.nf ∧ β' n = b ∧ ∃ r', getN h' n = some r' ∧ Shape r r' := fun n b r h => by
  obtain ⟨h1, h2, r1, h3, h4⟩ := S.fix n b r h
  obtain ⟨h5, r2, h6, h7⟩ := hf n r1 h1 h3
  exact ⟨h1, h5.trans h2, r2, h6, h4.trans h7⟩
/-- Another memory, another world: the slots are as they were, or forgotten. -/
theorem Sat.move (S : Sat own0 w0 st a w β col) {env' : List (Nat × AV)} {h' : List Root} {β' : Bs} {col' : Col} {w' : World}
    (hz : Zk col col' w w') {p q : Nat → Prop} (hp : ∀ n, p n → Weak st.heap h' β β' n) (hq : ∀ n, q n → Same st.heap h' β β' col col' w w' n)
    (henv : ∀ t, lk env' t = .undef ∨ (lk env' t = lk st.env t ∧ sees p q (lk st.env t)))
    (hheap : ∀ n r, getN h' n = some r → rootRel h' β' col' w' n r) (fr : Fr own0 w0 w')
    (hcol : ∀ b, col' b ≠ none → ((∃ x, col' b = some (0, x)) ∨ w0.heap.size ≤ b ∨ own0 b = 1) ∧ b < w'.heap.size) (hzero : getN h' 0 = some .dead) (hzon : ∀ g, g < w0.heap.size → col' g = none → col g = none)
    (hfix : ∀ n r, n < st.nf → getN st.heap n = some r → β' n = β n ∧ ∃ r', getN h' n = some r' ∧ Shape r r') : Sat own0 w0 ⟨env', h', st.nt, st.nf⟩ a w' β' col' where
  fix := S.fixed hfix
  zero := hzero
  zon := fun g hg h => S.zon g hg (hzon g hg h)
  env := fun t => by
    rcases henv t with h | ⟨h1, h2⟩
    · show vrel h' β' col' w' (lk env' t) _
      rw [h]; trivial
    · show vrel h' β' col' w' (lk env' t) _
      rw [h1]; exact vrel_keep hz hp hq S.heap _ _ h2 (S.env t)
  heap := hheap
  nt := S.nt
  defers := S.defers
  fr := fr
  col := hcol

theorem Act.put_tmps (a : Act) (d : Nat) (x : Value) : (a.put (some d) x).tmps = a.tmps.setIfInBounds d x := rfl
theorem Sat.put (S : Sat own0 w0 st a w β col) {d : Option Nat} {v : AV} {x : Value} {st' : St} (hp : st.put d v = some st')
    (hv : vrel st.heap β col w v x) : Sat own0 w0 st' (a.put d x) w β col := by
  cases d with
  | none => cases hp; exact S
  | some d =>
    simp only [St.put, cn] at hp
    split at hp
    · rename_i hlt
      cases hp
      have hd : d < a.tmps.size := by rw [S.nt]; exact Nat.le_of_ble_eq_true hlt
      refine ⟨fun t => ?_, S.heap, by rw [Act.put_tmps]; simpa using S.nt, S.defers, S.fr, S.col, S.zero, S.zon, S.fix⟩
      show vrel st.heap β col w (lk ((d, v) :: st.env) t) _
      rw [lk_cons, Act.put_tmps]
      split
      · rename_i e; subst e
        simpa [Array.getD_eq_getD_getElem?, Array.getElem?_setIfInBounds, hd] using hv
      · rename_i e
        have := S.env t
        simpa [Array.getD_eq_getD_getElem?, Array.getElem?_setIfInBounds, e] using this
    · cases hp
theorem Sat.none_put (S : Sat own0 w0 st a w β col) {d : Option Nat} {x : Value} {st' : St} (hp : st.put d .undef = some st') : Sat own0 w0 st' (a.put d x) w β col :=
  S.put hp trivial

/-- The world with a new block. -/
structure Grew (w w' : World) (o : Obj) : Prop where
  os : w'.os = w.os
  tape : w'.tape = w.tape
  output : w'.output = w.output
  heap : w'.heap = w.heap.push o
variable {w' : World} {o : Obj}
theorem Grew.fr (hg : Grew w w' o) (f : Fr own0 w0 w) : Fr own0 w0 w' :=
  ⟨hg.os.trans f.os, hg.tape.trans f.tape, hg.output.trans f.output, by rw [hg.heap]; simp; have := f.size; omega, fun b hb hn => by
    rw [hg.heap, Array.getElem?_push, if_neg (by have := f.size; omega)]; exact f.block b hb hn⟩
theorem Grew.below (hg : Grew w w' o) : Below w.heap.size w w' :=
  ⟨hg.os, hg.tape, hg.output, by rw [hg.heap]; simp, fun k hk => by rw [hg.heap, Array.getElem?_push, if_neg (by omega)]⟩
theorem Grew.old (hg : Grew w w' o) {g : Nat} {x : Obj} (h : w.heap[g]? = some x) : w'.heap[g]? = some x := by
  have := (Array.getElem?_eq_some_iff.1 h).1
  rw [hg.heap, Array.getElem?_push, if_neg (by omega)]; exact h
theorem Grew.new (hg : Grew w w' o) : w'.heap[w.heap.size]? = some o := by rw [hg.heap]; simp

def upd {A : Type} (f : Nat → A) (n : Nat) (x : A) : Nat → A := fun m => if m = n then x else f m
theorem upd_self {A : Type} (f : Nat → A) (n : Nat) (x : A) : upd f n x n = x := by simp [upd]
theorem upd_ne {A : Type} (f : Nat → A) {n m : Nat} (x : A) (h : m ≠ n) : upd f n x m = f m := by simp [upd, h]

theorem getN_push (h : List Root) (r : Root) (n : Nat) : getN (hpush h r) n = if n < h.length then getN h n else if n = h.length then some r else none := by
  simp only [getN_eq, hpush, List.getElem?_append]
  split
  · rfl
  · rename_i hn
    split
    · rename_i e; subst e; simp
    · rename_i e; rw [List.getElem?_eq_none]; simp; omega

/-- A new root over a new block (or over none). -/
theorem Sat.push (S : Sat own0 w0 st a w β col) {r : Root} {b : Option Base} (hg : Grew w w' o)
    (hb : ∀ x, b = some x → x.g = w.heap.size) 
    (hr : ∀ β' col', (∀ n, n < st.heap.length → β' n = β n) → β' st.heap.length = b → (∀ g, g < w.heap.size → col' g = col g) → col' w.heap.size = some (st.heap.length, true) →
      (∀ c v, vrel st.heap β col w c v → vrel (hpush st.heap r) β' col' w' c v) → rootRel (hpush st.heap r) β' col' w' st.heap.length r) :
    ∃ β' col', Sat own0 w0 { st with heap := hpush st.heap r } a w' β' col' ∧ β' st.heap.length = b ∧ 
      (∀ c v, vrel st.heap β col w c v → vrel (hpush st.heap r) β' col' w' c v) := by
  refine ⟨upd β st.heap.length b, upd col w.heap.size (some (st.heap.length, true)), ?_⟩
  have hz : Zk col (upd col w.heap.size (some (st.heap.length, true))) w w' := ⟨fun g x hg1 hx => by
    have hlt := (Array.getElem?_eq_some_iff.1 hx).1
    exact ⟨by show upd _ _ _ g = none; rw [upd_ne _ _ (by omega)]; exact hg1, hg.old hx⟩⟩
  have same : ∀ n, n < st.heap.length → Same st.heap (hpush st.heap r) β (upd β st.heap.length b) col (upd col w.heap.size (some (st.heap.length, true))) w w' n := fun n hn =>
    ⟨by rw [getN_push, if_pos hn], upd_ne _ _ (by omega), fun g x _ hx => by
      have hlt := (Array.getElem?_eq_some_iff.1 hx).1
      exact ⟨upd_ne _ _ (by omega), hg.old hx⟩⟩
  have keep : ∀ c v, vrel st.heap β col w c v → vrel (hpush st.heap r) (upd β st.heap.length b) (upd col w.heap.size (some (st.heap.length, true))) w' c v := fun c v hv =>
    vrel_keep hz (fun n hn => (same n hn).weak) same S.heap c v (vrel_sees c v hv) hv
  refine ⟨S.move hz (fun n hn => (same n hn).weak) same (fun t => .inr ⟨rfl, vrel_sees _ _ (S.env t)⟩) ?_ (hg.fr S.fr) ?_ (by rw [getN_push, if_pos (getN_lt S.zero)]; exact S.zero) (fun g hg1 h => by rw [upd_ne _ _ (by have := S.fr.size; omega)] at h; exact h) (fun n x _ hx => ⟨upd_ne _ _ (by have := getN_lt hx; omega), x, by rw [getN_push, if_pos (getN_lt hx)]; exact hx, Shape.refl x⟩), upd_self _ _ _, keep⟩
  · intro n x hx
    rw [getN_push] at hx
    split at hx
    · rename_i hn
      refine rootRel_keep hz (fun n hn => (same n hn).weak) same S.heap (same n hn) x (fun t vs e => ?_) (S.heap n x hx)
      subst e
      obtain ⟨b, cs, _, _, _, _, h5, _⟩ := S.heap n _ hx
      exact vrels_sees vs _ h5
    · split at hx
      · rename_i hn e; subst e
        cases hx
        exact hr _ _ (fun n hn => upd_ne _ _ (by omega)) (upd_self _ _ _) (fun g hg => upd_ne _ _ (by omega)) (upd_self _ _ _) keep
      · cases hx
  · intro g hg1
    by_cases e : g = w.heap.size
    · subst e
      exact ⟨.inr (.inl S.fr.size), by rw [hg.heap]; simp⟩
    · rw [upd_ne _ _ e] at hg1 ⊢
      have := S.col g hg1
      exact ⟨this.1, by rw [hg.heap]; simp; omega⟩

/-- A new root with nothing laid: a row of nil. -/
theorem Sat.pushNilB (S : Sat own0 w0 st a w β col) (e : Nat) (k : Kind) :
    ∃ β', Sat own0 w0 { st with heap := hpush st.heap (.rows e k []) } a w β' col ∧ β' st.heap.length = none ∧
      (∀ c v, vrel st.heap β col w c v → vrel (hpush st.heap (.rows e k [])) β' col w c v) ∧ ∀ n, n < st.heap.length → β' n = β n := by
  refine ⟨upd β st.heap.length none, ?_⟩
  have hz : Zk col col w w := ⟨fun g x hg1 hx => ⟨hg1, hx⟩⟩
  have same : ∀ n, n < st.heap.length → Same st.heap (hpush st.heap (.rows e k [])) β (upd β st.heap.length none) col col w w n := fun n hn =>
    ⟨by rw [getN_push, if_pos hn], upd_ne _ _ (by omega), fun g x _ hx => ⟨rfl, hx⟩⟩
  have keep : ∀ c v, vrel st.heap β col w c v → vrel (hpush st.heap (.rows e k [])) (upd β st.heap.length none) col w c v := fun c v hv =>
    vrel_keep hz (fun n hn => (same n hn).weak) same S.heap c v (vrel_sees c v hv) hv
  refine ⟨S.move hz (fun n hn => (same n hn).weak) same (fun t => .inr ⟨rfl, vrel_sees _ _ (S.env t)⟩) ?_ S.fr S.col (by rw [getN_push, if_pos (getN_lt S.zero)]; exact S.zero) (fun g _ h => h) (fun n x _ hx => ⟨upd_ne _ _ (by have := getN_lt hx; omega), x, by rw [getN_push, if_pos (getN_lt hx)]; exact hx, Shape.refl x⟩), upd_self _ _ _, keep, fun n hn => upd_ne _ _ (by omega)⟩
  intro n x hx
  rw [getN_push] at hx
  split at hx
  · rename_i hn
    refine rootRel_keep hz (fun n hn => (same n hn).weak) same S.heap (same n hn) x (fun t vs e => ?_) (S.heap n x hx)
    subst e
    obtain ⟨b, cs, _, _, _, _, h5, _⟩ := S.heap n _ hx
    exact vrels_sees vs _ h5
  · split at hx
    · rename_i hn e; subst e
      cases hx
      unfold rootRel
      rw [upd_self]
    · cases hx
theorem Sat.pushNil (S : Sat own0 w0 st a w β col) (e : Nat) (k : Kind) :
    ∃ β', Sat own0 w0 { st with heap := hpush st.heap (.rows e k []) } a w β' col ∧ β' st.heap.length = none ∧
      (∀ c v, vrel st.heap β col w c v → vrel (hpush st.heap (.rows e k [])) β' col w c v) := by
  obtain ⟨β', h1, h2, h3, _⟩ := S.pushNilB e k
  exact ⟨β', h1, h2, h3⟩
end
end Go.Proofs.YtlkbmcmglkdciaaE
