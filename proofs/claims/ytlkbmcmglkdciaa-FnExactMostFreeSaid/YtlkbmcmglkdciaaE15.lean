/- Roots replaced, blocks of other colours; what a slice reads as. No condition. -/
import Derived.Test.YtlkbmcmglkdciaaE14
set_option linter.unusedVariables false
set_option linter.unusedSectionVars false
set_option linter.unusedSimpArgs false
namespace Go.Proofs.YtlkbmcmglkdciaaE
open Go Go.RowKit
open Classical in
/-- Some blocks get another colour. -/
noncomputable def recol (col : Col) (p : Nat → Prop) (c : Nat × Bool) : Col := fun g => if p g then some c else col g
theorem recol_yes {col : Col} {p : Nat → Prop} {c : Nat × Bool} {g : Nat} (h : p g) : recol col p c g = some c := if_pos h
theorem recol_no {col : Col} {p : Nat → Prop} {c : Nat × Bool} {g : Nat} (h : ¬ p g) : recol col p c g = col g := if_neg h

section
variable {own0 : Own} {w0 : World} {st : St} {a : Act} {w : World} {β : Bs} {col : Col} {P : Program} {o : Oper}

theorem Sat.recolor (S : Sat own0 w0 st a w β col) {p : Nat → Prop} (c : Nat × Bool) (hp : ∀ g, p g → ∃ m x, m ≠ 0 ∧ col g = some (m, x) ∧ (getN st.heap m = some .dead ∨ getN st.heap m = none)) :
    Sat own0 w0 st a w β (recol col p c) := by
  have live : ∀ m r, getN st.heap m = some r → r ≠ .dead → ∀ g x, col g = some (m, x) → recol col p c g = col g := by
    intro m r hr hd g x hg
    refine recol_no (fun h => ?_)
    obtain ⟨m', x', _, h1, h2⟩ := hp g h
    rw [hg] at h1; cases h1
    rcases h2 with h2 | h2 <;> rw [hr] at h2 <;> cases h2
    exact hd rfl
  have zn : ∀ g, col g = none → recol col p c g = none := fun g hg => by
    rw [recol_no (fun h => by obtain ⟨m', x', hm0, h1, _⟩ := hp g h; rw [hg] at h1; cases h1)]; exact hg
  have zk : Zk col (recol col p c) w w := ⟨fun g x hg hx => ⟨zn g hg, hx⟩⟩
  have same : ∀ m, (∃ r, getN st.heap m = some r ∧ r ≠ .dead) → Same st.heap st.heap β β col (recol col p c) w w m := fun m ⟨r, hr, hd⟩ =>
    ⟨rfl, rfl, fun g x hg hx => by obtain ⟨y, hy⟩ := hg; exact ⟨live m r hr hd g y hy, hx⟩⟩
  have see : ∀ v x, vrel st.heap β col w v x → sees (fun m => ∃ r, getN st.heap m = some r ∧ r ≠ .dead) (fun m => ∃ r, getN st.heap m = some r ∧ r ≠ .dead) v := fun v x hv =>
    sees_of (fun n r hr hd => ⟨r, hr, hd⟩) (fun n s i c y hs _ => ⟨_, rowOf_get hs, by simp⟩) v x hv
  refine S.move zk (fun m hm => (same m hm).weak) same (fun t => .inr ⟨rfl, see _ _ (S.env t)⟩) ?_ S.fr ?_ S.zero (fun g _ h => by
    by_cases hp' : p g
    · rw [recol_yes hp'] at h; cases h
    · rw [recol_no hp'] at h; exact h) (fun n r _ hr => ⟨rfl, r, hr, Shape.refl r⟩)
  · intro n r hr
    by_cases hd : r = .dead
    · subst hd; trivial
    · refine rootRel_keep zk (fun m hm => (same m hm).weak) same S.heap (same n ⟨r, hr, hd⟩) r (fun t vs e => ?_) (S.heap n r hr)
      subst e
      obtain ⟨b, cs, _, _, _, _, h5, h6⟩ := S.heap n _ hr
      exact cells_sees (fun n r hr hd => ⟨r, hr, hd⟩) h6 h5
  · intro g hg
    by_cases h : p g
    · obtain ⟨m', x', hm0, h1, _⟩ := hp g h
      have := S.col g (by rw [h1]; simp)
      exact ⟨.inr (this.1.resolve_left (fun ⟨x, hx⟩ => by rw [h1] at hx; cases hx; exact hm0 rfl)), this.2⟩
    · rw [recol_no h] at hg ⊢
      exact S.col g hg

/-- Root n is another one; what named it is forgotten. -/
theorem Sat.replace (S : Sat own0 w0 st a w β col) {n : Nat} (hn : n < st.heap.length) (hnf : st.nf ≤ n) {r1 : Root} {b1 : Option Base} {w' : World} {col' : Col}
    (hz : ∀ g x, col g = none → w.heap[g]? = some x → col' g = none ∧ w'.heap[g]? = some x)
    (hlive : ∀ m r, m ≠ n → getN st.heap m = some r → r ≠ .dead → ∀ g y x, col g = some (m, y) → w.heap[g]? = some x → col' g = col g ∧ w'.heap[g]? = some x)
    (fr : Fr own0 w0 w') (hn0 : n ≠ 0) (hcol : ∀ b, col' b ≠ none → ((∃ x, col' b = some (0, x)) ∨ w0.heap.size ≤ b ∨ own0 b = 1) ∧ b < w'.heap.size)
    (hzon : ∀ g, g < w0.heap.size → col' g = none → col g = none)
    (hroot : ∀ (h' : List Root), rootRel h' (upd β n b1) col' w' n r1) :
    Sat own0 w0 { st with env := forgetE n st.env, heap := setN (forgetH n st.heap) n r1 } a w' (upd β n b1) col' := by
  have zk : Zk col col' w w' := ⟨fun g x hg hx => hz g x hg hx⟩
  have weak : ∀ m, m ≠ n → Weak st.heap (setN (forgetH n st.heap) n r1) β (upd β n b1) m := fun m hm => by
    have := forget_weak (β := β) (r1 := r1) hm (st := st)
    exact ⟨upd_ne _ _ hm, this.ptr⟩
  have same : ∀ m, (m ≠ n ∧ ∃ s, rowsOf st.heap m = some s) → Same st.heap (setN (forgetH n st.heap) n r1) β (upd β n b1) col col' w w' m := fun m ⟨hm, s, hs⟩ =>
    ⟨by rw [getN_set, if_neg hm, getN_forget, rowOf_get hs]; rfl, upd_ne _ _ hm, fun g x hg hx => by
      obtain ⟨y, hy⟩ := hg
      exact hlive m _ hm (rowOf_get hs) (by simp) g y x hy hx⟩
  have keep : ∀ c v, vrel st.heap β col w c v → seesN n c = false → vrel (setN (forgetH n st.heap) n r1) (upd β n b1) col' w' c v := fun c v hv hs =>
    vrel_keep zk (p := fun m => m ≠ n) (q := fun m => m ≠ n ∧ ∃ s, rowsOf st.heap m = some s) weak same S.heap c v
      (sees_not hv hs (fun m r hm _ _ => hm) (fun m s hm hs => ⟨hm, s, hs⟩)) hv
  refine ⟨fun t => ?_, ?_, S.nt, S.defers, fr, hcol, by
    show getN (setN (forgetH n st.heap) n r1) 0 = some .dead
    rw [getN_set, if_neg (Ne.symm hn0), getN_forget, S.zero]; rfl, fun g hg h => S.zon g hg (hzon g hg h), S.fixed fun m r hm hr => ⟨upd_ne _ _ (by omega), forget_shape hr (by omega)⟩⟩
  · show vrel _ _ _ _ (lk (forgetE n st.env) t) _
    rw [lk_forget]
    rcases forget_or n (lk st.env t) with h1 | ⟨h1, h2⟩
    · rw [h1]; trivial
    · rw [h1]; exact keep _ _ (S.env t) h2
  · intro m r hr
    show rootRel (setN (forgetH n st.heap) n r1) (upd β n b1) col' w' m r
    have hr2 : getN (setN (forgetH n st.heap) n r1) m = some r := hr
    clear hr
    rw [getN_set, forgetH_len] at hr2
    by_cases hm : m = n
    · subst hm
      rw [if_pos rfl, if_pos hn] at hr2
      cases hr2
      exact hroot _
    · rw [if_neg hm, getN_forget] at hr2
      have hr := hr2
      cases hx : getN st.heap m with
      | none => rw [hx] at hr; cases hr
      | some r0 =>
        rw [hx] at hr
        have h0 := S.heap m r0 hx
        cases r0 with
        | dead => cases hr; trivial
        | box t vs =>
          cases hr
          obtain ⟨b, cs, h1, h2, h3, h4, h5, h6⟩ := h0
          obtain ⟨k1, k2⟩ := hlive m _ hm hx (by simp) _ _ _ h3 h4
          exact ⟨b, cs, by rw [upd_ne _ _ hm]; exact h1, h2, by rw [k1]; exact h3, k2, forgetL_ok n (fun c v _ hv hs => keep c v hv hs) h5, forgetL_cell n h6⟩
        | rows e k xs =>
          cases hr
          have sm := same m ⟨hm, _, rowOf_of hx⟩
          refine rootRel_keep (p := fun _ => False) (q := fun _ => False) zk (fun _ h => h.elim) (fun _ h => h.elim) S.heap sm _ (fun t vs e' => by cases e') h0
        | hol e k xs j =>
          cases hr
          have sm : Same st.heap (setN (forgetH n st.heap) n r1) β (upd β n b1) col col' w w' m :=
            ⟨by rw [getN_set, if_neg hm, getN_forget, hx]; rfl, upd_ne _ _ hm, fun g x hg hx' => by
              obtain ⟨y, hy⟩ := hg
              exact hlive m _ hm hx (by simp) g y x hy hx'⟩
          refine rootRel_keep (p := fun _ => False) (q := fun _ => False) zk (fun _ h => h.elim) (fun _ h => h.elim) S.heap sm _ (fun t vs e' => by cases e') h0

/-! ### What a slice reads as, in cells -/
theorem readSl_cells (S : Sat own0 w0 st a w β col) {x : AV} {s : Sl} {vx : Value} (hx : vrel st.heap β col w x vx) (h : readSl st.heap x = some s) :
    ∃ A c, vx = .slice A s.xs.length c ∧ s.xs.length ≤ c ∧ (s.xs = [] ∨ ∃ g o cs e fz, A = some ⟨g, o, none⟩ ∧ w.heap[g]? = some (.cells cs e fz) ∧ o + s.xs.length * s.k.sz ≤ cs.size ∧
      ∀ i, ∀ h : i < s.xs.length, ∃ Z, rep w Z s.k s.xs[i] (seg cs (o + i * s.k.sz) s.k.sz)) := by
  have bound : ∀ {cs : Array Value} {o : Nat} {k : Kind} {xs : List k.den}, xs ≠ [] → (∀ i, ∀ h : i < xs.length, ∃ Z, rep w Z k xs[i] (seg cs (o + i * k.sz) k.sz)) → o + xs.length * k.sz ≤ cs.size := by
    intro cs o k xs hne hel
    have hl : 0 < xs.length := List.length_pos_iff.2 hne
    obtain ⟨Z, hr⟩ := hel (xs.length - 1) (by omega)
    have := rep_len hr
    have hpos := sz_pos k
    have e : xs.length * k.sz = (xs.length - 1) * k.sz + k.sz := by
      conv => lhs; rw [show xs.length = (xs.length - 1) + 1 by omega]
      rw [Nat.add_mul]; omega
    simp [seg] at this
    omega
  cases x <;> simp only [readSl] at h <;> first | (cases h; done) | skip
  · cases h; obtain rfl : vx = _ := hx; exact ⟨none, 0, rfl, Nat.le_refl _, .inl rfl⟩
  · cases h
    rename_i e k xs
    obtain ⟨A, c, hA, hc, hh⟩ := hx
    cases hA
    refine ⟨A, c, rfl, hc, ?_⟩
    by_cases he : xs = []
    · exact .inl he
    · rcases hh with hh | ⟨g, o, cs, e2, fz, rfl, hg, hw, hel⟩
      · exact absurd hh he
      · exact .inr ⟨g, o, cs, e2, fz, rfl, hw, bound he (fun i hi => ⟨_, hel i hi⟩), fun i hi => ⟨_, hel i hi⟩⟩
  · rename_i n
    obtain ⟨s', hs'⟩ : ∃ s', rowsOf st.heap n = some s' := by
      split at h
      · rename_i hr; exact ⟨_, rowOf_of hr⟩
      · cases h
    obtain ⟨A, c, rfl, hc, hb⟩ := ref_row hx hs'
    have hR := rowRel S hs'
    rw [rowOf_get hs'] at h
    cases h
    refine ⟨A, c, rfl, hc, ?_⟩
    unfold rootRel at hR
    cases hβ : β n with
    | none => rw [hβ] at hR; exact .inl hR
    | some b =>
      rw [hβ] at hR hb
      obtain ⟨cs, fz, k1, k2, k3, k4, k5, k6, k7⟩ := hR
      by_cases he : s'.xs = []
      · exact .inl he
      · right
        have hl : 0 < s'.xs.length := List.length_pos_iff.2 he
        have hA : A = some ⟨b.g, b.o + 0 * s'.k.sz, none⟩ := hb.1.resolve_left (by omega)
        exact ⟨b.g, _, cs, s'.e, fz, hA, k2, by simpa using k5, fun i hi => ⟨_, by have := k6 i hi; simpa using this⟩⟩
  · rename_i n lo len
    obtain ⟨s', hs'⟩ : ∃ s', rowsOf st.heap n = some s' := by
      split at h
      · rename_i hr; exact ⟨_, rowOf_of hr⟩
      · cases h
    obtain ⟨hl0, A, c, rfl, hc, hb⟩ := win_row hx hs'
    have hR := rowRel S hs'
    rw [rowOf_get hs'] at h
    cases h
    have hlen : ((s'.xs.drop lo).take len).length = len := by simp; omega
    refine ⟨A, c, by rw [hlen], by rw [hlen]; exact hc, ?_⟩
    unfold rootRel at hR
    cases hβ : β n with
    | none => rw [hβ] at hR; left; simp only at hR; simp [hR]
    | some b =>
      rw [hβ] at hR hb
      obtain ⟨cs, fz, k1, k2, k3, k4, k5, k6, k7⟩ := hR
      by_cases he : len = 0
      · left; subst he; simp
      · right
        have hA : A = some ⟨b.g, b.o + lo * s'.k.sz, none⟩ := hb.1.resolve_left (by omega)
        have hle : (lo + len) * s'.k.sz ≤ s'.xs.length * s'.k.sz := Nat.mul_le_mul_right _ hl0
        rw [Nat.add_mul] at hle
        refine ⟨b.g, _, cs, s'.e, fz, hA, k2, by simp only [hlen]; omega, fun i hi => ⟨inner col n, ?_⟩⟩
        have hi' : lo + i < s'.xs.length := by simp only [hlen] at hi; omega
        have := k6 (lo + i) hi'
        have e1 : ((s'.xs.drop lo).take len)[i] = s'.xs[lo + i] := by simp
        simp only [e1]
        rw [show b.o + lo * s'.k.sz + i * s'.k.sz = b.o + (lo + i) * s'.k.sz by rw [Nat.add_mul]; omega]
        exact this
  · obtain ⟨A, q, h1, h2, h3⟩ := sub_read S hx (by simp only [readSl]; exact h)
    refine ⟨A, q, h1, h2, ?_⟩
    by_cases he : s.xs = []
    · exact .inl he
    · rcases h3 with h3 | ⟨g, o, cs, e2, fz, rfl, hg, hw, hel⟩
      · exact absurd h3 he
      · exact .inr ⟨g, o, cs, e2, fz, rfl, hw, bound he (fun i hi => ⟨_, hel i hi⟩), fun i hi => ⟨_, hel i hi⟩⟩
  · obtain ⟨A, q, h1, h2, h3⟩ := swin_read S hx (by simp only [readSl]; exact h)
    refine ⟨A, q, h1, h2, ?_⟩
    by_cases he : s.xs = []
    · exact .inl he
    · rcases h3 with h3 | ⟨g, o, cs, e2, fz, rfl, hg, hw, hel⟩
      · exact absurd h3 he
      · exact .inr ⟨g, o, cs, e2, fz, rfl, hw, bound he (fun i hi => ⟨_, hel i hi⟩), fun i hi => ⟨_, hel i hi⟩⟩

/-- The cells of a slice, as the model loads them. -/
theorem run_first {A : Option Addr} {n c sz : Nat} {m : Nat} (h : n = 0 ∨ ∃ g o cs e fz, A = some ⟨g, o, none⟩ ∧ w.heap[g]? = some (.cells cs e fz) ∧ o + n * sz ≤ cs.size) (hm : m ≤ n)
    {α : Type} (f : Array Value → Sem α) : ∃ L : List Value, L.length = m * sz ∧ (Builtin.firstCells sz m (.slice A n c) >>= f).run P w = (f L.toArray).run P w ∧
      ∀ g o cs e fz, A = some ⟨g, o, none⟩ → w.heap[g]? = some (.cells cs e fz) → 0 < m → L = seg cs o (m * sz) := by
  rcases h with rfl | ⟨g, o, cs, e, fz, rfl, hw, hl⟩
  · have : m = 0 := by omega
    subst this
    refine ⟨[], by simp, ?_, fun _ _ _ _ _ _ _ h => by omega⟩
    cases A <;> simp [Builtin.firstCells, loadCells, loadCellsFrom]
  · refine ⟨seg cs o (m * sz), seg_len (by have := Nat.mul_le_mul_right sz hm; omega), ?_, fun g' o' cs' e' fz' h1 h2 _ => ?_⟩
    · show (loadCellsFrom _ 0 _ #[] >>= f).run P w = _
      rw [run_loadCells hw _ _ _ _ (by have := Nat.mul_le_mul_right sz hm; omega)]
      simp
    · cases h1
      rw [hw] at h2; cases h2; rfl
end
end Go.Proofs.YtlkbmcmglkdciaaE
