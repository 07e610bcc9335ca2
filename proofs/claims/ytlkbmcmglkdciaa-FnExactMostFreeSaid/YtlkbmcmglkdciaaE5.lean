/- Operations that leave the world alone: loads and slices. No condition. -/
import Derived.Test.YtlkbmcmglkdciaaE4
set_option linter.unusedVariables false
set_option linter.unusedSectionVars false
set_option linter.unusedSimpArgs false
namespace Go.Proofs.YtlkbmcmglkdciaaE
open Go Go.RowKit

section
variable {h : List Root} {β : Bs} {col : Col} {w : World}
theorem vrels_len : ∀ {l : List AV} {vs : List Value}, vrels h β col w l vs → l.length = vs.length
  | [], [], _ => rfl
  | _ :: l, _ :: vs, hv => by simp [vrels_len hv.2]
  | [], _ :: _, hv => hv.elim
  | _ :: _, [], hv => hv.elim
theorem vrels_append : ∀ {l l' : List AV} {vs vs' : List Value}, vrels h β col w l vs → vrels h β col w l' vs' → vrels h β col w (l ++ l') (vs ++ vs')
  | [], _, [], _, _, h2 => h2
  | _ :: l, _, _ :: vs, _, h1, h2 => ⟨h1.1, vrels_append h1.2 h2⟩
  | [], _, _ :: _, _, hv, _ => hv.elim
  | _ :: _, _, [], _, hv, _ => hv.elim
theorem vrels_take : ∀ (n : Nat) {l : List AV} {vs : List Value}, vrels h β col w l vs → vrels h β col w (l.take n) (vs.take n)
  | 0, _, _, _ => by simp [vrels]
  | n + 1, [], [], _ => by simp [vrels]
  | n + 1, _ :: l, _ :: vs, hv => ⟨hv.1, vrels_take n hv.2⟩
  | _ + 1, [], _ :: _, hv => hv.elim
  | _ + 1, _ :: _, [], hv => hv.elim
theorem vrels_drop : ∀ (n : Nat) {l : List AV} {vs : List Value}, vrels h β col w l vs → vrels h β col w (l.drop n) (vs.drop n)
  | 0, _, _, hv => hv
  | n + 1, [], [], _ => by simp [vrels]
  | n + 1, _ :: l, _ :: vs, hv => vrels_drop n hv.2
  | _ + 1, [], _ :: _, hv => hv.elim
  | _ + 1, _ :: _, [], hv => hv.elim
theorem vrels_get : ∀ {l : List AV} {vs : List Value} {i : Nat} {v : AV}, vrels h β col w l vs → l[i]? = some v → ∃ x, vs[i]? = some x ∧ vrel h β col w v x
  | [], _, i, v, _, hi => by simp at hi
  | a :: l, x :: vs, 0, v, hv, hi => by simp at hi; subst hi; exact ⟨x, rfl, hv.1⟩
  | a :: l, x :: vs, i + 1, v, hv, hi => by simp at hi; simpa using vrels_get hv.2 hi
  | _ :: _, [], _, _, hv, _ => hv.elim
theorem cellsS_ok : ∀ {k : Kind} {x : k.den} {vs : List Value}, rep w (zone col) k x vs → vrels h β col w (cellsS k x) vs
  | .int _, _, _, hr => by rw [show _ = _ from hr]; exact ⟨rfl, trivial⟩
  | .bool, _, _, hr => by rw [show _ = _ from hr]; exact ⟨rfl, trivial⟩
  | .str, _, _, hr => by rw [show _ = _ from hr]; exact ⟨rfl, trivial⟩
  | .pair a b, _, _, hr => by
    obtain ⟨p, q, rfl, h1, h2⟩ := hr
    exact vrels_append (cellsS_ok h1) (cellsS_ok h2)
  | .sl e k, x, vs, hr => by
    have := hr
    obtain ⟨A, c, rfl, _⟩ := hr
    exact ⟨this, trivial⟩
theorem cellsF_ok {Z : Nat → Prop} : ∀ {k : Kind} {x : k.den} {vs : List Value}, flat k = true → rep w Z k x vs → vrels h β col w (cellsS k x) vs
  | .int _, _, _, _, hr => by rw [show _ = _ from hr]; exact ⟨rfl, trivial⟩
  | .bool, _, _, _, hr => by rw [show _ = _ from hr]; exact ⟨rfl, trivial⟩
  | .str, _, _, _, hr => by rw [show _ = _ from hr]; exact ⟨rfl, trivial⟩
  | .pair a b, _, _, hf, hr => by
    simp only [flat, Bool.and_eq_true] at hf
    obtain ⟨p, q, rfl, h1, h2⟩ := hr
    exact vrels_append (cellsF_ok hf.1 h1) (cellsF_ok hf.2 h2)
  | .sl e k, x, vs, hf, hr => by simp [flat] at hf
theorem cellsO_ok {n i : Nat} {s : Sl} {b : Base} {cs : Array Value} {fz : Nat × Nat} (h1 : rowsOf h n = some s) (h2 : β n = some b) (h3 : i < s.xs.length)
    (h4 : w.heap[b.g]? = some (.cells cs s.e fz)) : ∀ {k : Kind} {x : k.den} {vs : List Value} (c : Nat), rep w (inner col n) k x vs →
      (∀ j v, vs[j]? = some v → cs[b.o + i * s.k.sz + (c + j)]? = some v) → (∀ j y, subAt k x j = some y → subAt s.k (getAt s.k.dflt s.xs i) (c + j) = some y) → vrels h β col w (cellsO n i k c x) vs
  | .int _, _, _, _, hr, _, _ => by rw [show _ = _ from hr]; exact ⟨rfl, trivial⟩
  | .bool, _, _, _, hr, _, _ => by rw [show _ = _ from hr]; exact ⟨rfl, trivial⟩
  | .str, _, _, _, hr, _, _ => by rw [show _ = _ from hr]; exact ⟨rfl, trivial⟩
  | .pair a b, x, _, c, hr, hc, hs => by
    obtain ⟨p, q, rfl, r1, r2⟩ := hr
    have lp := rep_len r1
    refine vrels_append (cellsO_ok h1 h2 h3 h4 c r1 (fun j v hj => hc j v ?_) (fun j y hj => ?_)) (cellsO_ok h1 h2 h3 h4 (c + a.sz) r2 (fun j v hj => ?_) (fun j y hj => ?_))
    · rw [List.getElem?_append_left (List.getElem?_eq_some_iff.1 hj).1]; exact hj
    · refine hs j y ?_
      have : j < a.sz := by
        rcases Nat.lt_or_ge j a.sz with hlt | hge
        · exact hlt
        · rw [subAt_none _ _ _ hge] at hj; cases hj
      simp only [subAt, cn, blt_true this]
      exact hj
    · have := hc (a.sz + j) v (by rw [← lp, List.getElem?_append_right (by omega)]; simpa using hj)
      rw [← this]; congr 1; omega
    · have := hs (a.sz + j) y (by
        simp only [subAt, cn, blt_false (show a.sz ≤ a.sz + j by omega)]
        rw [show a.sz + j - a.sz = j by omega]; exact hj)
      rw [← this]; congr 1; omega
  | .sl e k, x, vs, c, hr, hc, hs => by
    obtain ⟨A, q, rfl, _⟩ := hr
    exact ⟨⟨s, b, cs, fz, h1, h2, h3, h4, by have := hc 0 _ rfl; simpa using this, _, hs 0 _ rfl⟩, trivial⟩
end

section
variable {own0 : Own} {w0 : World} {st : St} {a : Act} {w : World} {β : Bs} {col : Col} {P : Program}

theorem cell_at {w : World} {g o : Nat} {cs : Array Value} {e : Nat} {fz : Nat × Nat} (h : w.heap[g]? = some (.cells cs e fz)) : w.cell? ⟨g, o, none⟩ = cs[o]? := by
  simp [World.cell?, h]
theorem run_load {w : World} {A : Addr} {v : Value} (h : w.cell? A = some v) {α : Type} (f : Value → Sem α) : (load A >>= f).run P w = (f v).run P w := by
  simp [load, bind, Sem.bind, Sem.run, h]
theorem run_loadCells {w : World} {g o : Nat} {cs : Array Value} {e : Nat} {fz : Nat × Nat} (h : w.heap[g]? = some (.cells cs e fz)) : ∀ (n i : Nat) (acc : Array Value) {α : Type} (f : Array Value → Sem α), o + i + n ≤ cs.size →
    (loadCellsFrom ⟨g, o, none⟩ i n acc >>= f).run P w = (f (acc ++ (seg cs (o + i) n).toArray)).run P w
  | 0, i, acc, α, f, _ => by simp [loadCellsFrom, seg]
  | n + 1, i, acc, α, f, hn => by
    have hc : w.cell? ((⟨g, o, none⟩ : Addr).add i) = some cs[o + i] := by
      rw [add_none, cell_at h, Array.getElem?_eq_getElem (by omega)]
    show ((load _ >>= fun v => loadCellsFrom ⟨g, o, none⟩ (i + 1) n (acc.push v)) >>= f).run P w = _
    have : ∀ {α β γ : Type} (x : Sem α) (p : α → Sem β) (q : β → Sem γ), ((x >>= p) >>= q).run P w = (x >>= fun y => p y >>= q).run P w := by
      intro α β γ x p q
      have assoc : ∀ (x : Sem α), (x.bind p).bind q = x.bind fun y => (p y).bind q := by
        intro x
        induction x <;> simp_all [Sem.bind]
        rename_i ih; funext b; cases b
        · exact ih.1
        · exact ih.2
      show ((x.bind p).bind q).run P w = _
      rw [assoc]; rfl
    rw [this, run_load hc, run_loadCells h n (i + 1) _ f (by omega)]
    congr 2
    have : seg cs (o + i) (n + 1) = cs[o + i] :: seg cs (o + (i + 1)) n := by
      unfold seg
      rw [List.drop_eq_getElem_cons (by simp; omega)]
      simp [Nat.add_assoc]
    rw [this]; simp

theorem seg_drop {cs : Array Value} {o s c : Nat} : (seg cs o s).drop c = seg cs (o + c) (s - c) := by
  simp [seg, List.drop_take, List.drop_drop]
theorem rest_ok (S : Sat own0 w0 st a w β col) {p : AV} {x : Value} {vs : List AV} (hp : vrel st.heap β col w p x) (hr : restOf st p = some vs) :
    ∃ g o cs e fz, x = .pointer (some ⟨g, o, none⟩) ∧ w.heap[g]? = some (.cells cs e fz) ∧ vrels st.heap β col w vs (seg cs o vs.length) := by
  have fin : ∀ {ws : List AV} {cs : Array Value} {o n c : Nat}, vrels st.heap β col w ws (seg cs o n) → vrels st.heap β col w (dropN c ws) (seg cs (o + c) (dropN c ws).length) := by
    intro ws cs o n c hv
    have := vrels_drop c hv
    rw [← dropN_eq, seg_drop] at this
    have hl := vrels_len this
    have : seg cs (o + c) (dropN c ws).length = seg cs (o + c) (n - c) := by
      unfold seg at hl ⊢
      rw [hl]
      simp
    rw [this]; assumption
  cases p with
  | ptr n i c =>
    obtain ⟨r, b, h1, h2, rfl, h4⟩ := hp
    have hR := S.heap n r h1
    simp only [restOf, h1] at hr
    cases r with
    | dead => simp [rlen] at h4
    | hol e k xs j => cases hr
    | box t ws =>
      simp only [Option.some.injEq] at hr
      subst hr
      obtain ⟨b', cs, k1, k2, k3, k4, k5, _⟩ := hR
      rw [h2] at k1; cases k1
      have hi : i = 0 := by simp [rlen] at h4; exact h4
      subst hi
      refine ⟨b.g, _, cs, t, (0, 0), rfl, k4, ?_⟩
      have : vrels st.heap β col w ws (seg cs 0 cs.size) := by
        have e : seg cs 0 cs.size = cs.toList := by simp [seg, List.take_of_length_le]
        rw [e]; exact k5
      have := fin (c := c) this
      simpa [k2] using this
    | rows e k xs =>
      simp only [Option.some.injEq] at hr
      subst hr
      unfold rootRel at hR
      rw [h2] at hR
      obtain ⟨cs, fz, k1, k2, k3, k4, k5, k6, k7⟩ := hR
      simp only [rlen] at h4
      refine ⟨b.g, _, cs, e, fz, rfl, k2, ?_⟩
      have hx := k6 i h4
      have hg : getAt k.dflt xs i = xs[i] := by simp [getAt, h4]
      rw [hg]
      refine fin (n := k.sz) (cellsO_ok (rowOf_of h1) h2 h4 k2 0 hx (fun j v hj => ?_) (fun j y hj => ?_))
      rotate_left
      · rw [Nat.zero_add]; simp only; rw [hg]; exact hj
      have hj' : j < k.sz := by
        have := (List.getElem?_eq_some_iff.1 hj).1
        simp [seg] at this; omega
      rw [seg_get hj'] at hj
      simpa [rsz] using hj
  | sptr k xs i c =>
    obtain ⟨g, o, cs, e, fz, h1, h2, h3, rfl, h5⟩ := hp
    simp only [restOf, Option.some.injEq] at hr
    subst hr
    exact ⟨g, _, cs, e, fz, rfl, h2, fin (cellsS_ok h5)⟩
  | nptr n i c j d =>
    have hp0 := hp
    obtain ⟨s, b, cs, fz, e', k', ys, g', o', q, h1, h2, h3, h4, h5, h6, h7, rfl⟩ := hp
    simp only [restOf, rowOf_get h1, h5] at hr
    obtain ⟨hf, hr⟩ := cn_some hr
    cases hr
    have hsub : vrel st.heap β col w (.sub n i c) (.slice (some ⟨g', o', none⟩) ys.length q) := ⟨s, b, cs, fz, h1, h2, h3, h4, h7, _, h5⟩
    have hrd : readSl st.heap (.sub n i c) = some ⟨e', k', ys⟩ := by simp only [readSl, rowOf_get h1, h5]
    obtain ⟨A, q', hA, _, hh⟩ := sub_read S hsub hrd
    simp only [Value.slice.injEq] at hA
    obtain ⟨rfl, _, rfl⟩ := hA
    rcases hh with he | ⟨g, o, cs', e2, fz', hA, hg, hw, hel⟩
    · simp only at he; rw [he] at h6; simp at h6
    · cases hA
      refine ⟨_, _, cs', e2, fz', rfl, hw, ?_⟩
      have := hel j h6
      have hg : getAt k'.dflt ys j = ys[j] := by simp [getAt, h6]
      rw [hg]
      exact fin (cellsF_ok hf this)
  | _ => simp [restOf] at hr

theorem aggT_run {t : Nat} {b : Bool} (h : aggT P t = some b) {α : Type} (f : Bool → Sem α) : (isAgg t >>= f).run P w = (f b).run P w := by
  unfold aggT at h
  split at h <;> rename_i hd <;> first | cases h | skip
  all_goals (try (simp [isAgg, underlying, program, bind, Sem.bind, Sem.run, hd, pure]; done))
end
end Go.Proofs.YtlkbmcmglkdciaaE
