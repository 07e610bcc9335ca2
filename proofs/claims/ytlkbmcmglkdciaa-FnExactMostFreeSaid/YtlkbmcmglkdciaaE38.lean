/- An inner row is taken out of its row, to be a root of its own. No condition. -/
import Derived.Test.YtlkbmcmglkdciaaE37
set_option linter.unusedVariables false
set_option linter.unusedSectionVars false
set_option linter.unusedSimpArgs false
namespace Go.Proofs.YtlkbmcmglkdciaaE
open Go Go.RowKit
open Classical

/-- What a call leaves as it was: all but what was handed over. -/
structure Kept (hs gs : List Nat) (h h2 : List Root) (w w' : World) (col col2 : Col) (β β2 : Bs) : Prop where
  old : ∀ g, g < w.heap.size → (∀ n x, n ≠ 0 → (n ∈ hs ∨ n ∈ gs) → col g ≠ some (n, x)) → col2 g = col g ∧ w'.heap[g]? = w.heap[g]?
  base : ∀ n, n < h.length → β2 n = β n
  weak : ∀ n r, getN h n = some r → r ≠ .dead → n ∉ gs → Weak h h2 β β2 n
  rowy : ∀ n s, rowsOf h n = some s → n ∉ gs → ∃ xs, rowsOf h2 n = some ⟨s.e, s.k, xs⟩ ∧ xs.length = s.xs.length
  size : w.heap.size ≤ w'.heap.size
  len : h.length ≤ h2.length
  given : ∀ n r, n ∈ gs → getN h n = some r → ∃ e k xs, r = .rows e k xs
  box : ∀ n t vs, getN h n = some (.box t vs) → n ∉ hs → ∃ vs', getN h2 n = some (.box t vs') ∧ vs'.length = vs.length
  dead : ∀ n, getN h n = some .dead → getN h2 n = some .dead
  nd : ∀ n, n ∈ hs → n ∉ gs
  same : ∀ n s, rowsOf h n = some s → n ∉ hs → n ∉ gs → rowsOf h2 n = some s
theorem rep_sub {w : World} {Z Y : Nat → Prop} {e' : Nat} {k' : Kind} {ys : List k'.den} {v : Value} : ∀ {k : Kind} {x : k.den} {vs : List Value} {j : Nat},
    rep w Z k x vs → inK w Y k vs → subAt k x j = some (.row e' k' ys) → vs[j]? = some v → rep w Z (.sl e' k') ys [v] ∧ capP w Y e' k'.sz v := by
  intro k
  induction k with
  | int _ => intro x vs j _ _ h; simp [subAt] at h
  | bool => intro x vs j _ _ h; simp [subAt] at h
  | str => intro x vs j _ _ h; simp [subAt] at h
  | pair p q ihp ihq =>
    intro x vs j hr hi h hv
    obtain ⟨vp, vq, rfl, hp, hq⟩ := hr
    have lp := rep_len hp
    obtain ⟨i1, i2⟩ := hi
    rw [List.take_left' lp] at i1
    rw [List.drop_left' lp] at i2
    simp only [subAt, cn] at h
    cases hb : Nat.blt j p.sz with
    | true =>
      rw [hb] at h
      have : j < p.sz := Nat.le_of_ble_eq_true hb
      exact ihp hp i1 h (by rw [← hv, List.getElem?_append_left (by omega)])
    | false =>
      rw [hb] at h
      have : p.sz ≤ j := Nat.le_of_not_lt fun hlt => by rw [blt_true hlt] at hb; cases hb
      exact ihq hq i2 h (by rw [← hv, List.getElem?_append_right (by omega), lp])
  | sl e k ih =>
    intro x vs j hr hi h hv
    have hr0 := hr
    obtain ⟨A, c, rfl, _⟩ := hr
    cases j with
    | zero =>
      simp at hv; subst hv
      simp only [subAt, Option.some.injEq] at h
      cases h
      exact ⟨hr0, hi _ List.mem_cons_self⟩
    | succ j => simp at hv

theorem rep_apart {w : World} {Z Y : Nat → Prop} : ∀ {k : Kind} {x : k.den} {vs : List Value}, flat2 k = true → rep w Z k x vs → (∀ g ∈ vs.filterMap blk, Y g) → rep w (fun g => Z g ∧ Y g) k x vs
  | .int _, _, _, _, h, _ => h
  | .bool, _, _, _, h, _ => h
  | .str, _, _, _, h, _ => h
  | .pair a b, _, _, hf, h, hy => by
    simp only [flat2, Bool.and_eq_true] at hf
    obtain ⟨p, q, rfl, h1, h2⟩ := h
    exact ⟨p, q, rfl, rep_apart hf.1 h1 fun g hg => hy g (by rw [List.filterMap_append]; exact List.mem_append.2 (.inl hg)), rep_apart hf.2 h2 fun g hg => hy g (by rw [List.filterMap_append]; exact List.mem_append.2 (.inr hg))⟩
  | .sl e k, xs, _, hf, h, hy => by
    have hf : flat k = true := hf
    obtain ⟨A, c, rfl, hc, h⟩ := h
    refine ⟨A, c, rfl, hc, ?_⟩
    by_cases h0 : xs = []
    · exact .inl h0
    · obtain ⟨g, o, cs, e2, fz, rfl, hg, hw, hx⟩ := h.resolve_left h0
      have hl : List.length xs ≠ 0 := fun h => h0 (List.eq_nil_of_length_eq_zero h)
      have hc0 : c ≠ 0 := by omega
      exact .inr ⟨g, o, cs, e2, fz, rfl, ⟨hg, hy g (by simp [blk, hc0])⟩, hw, fun i hi => rep_flat hf (hx i hi)⟩

theorem filterMap_inj {A B : Type} {f : A → Option B} {g : B} : ∀ {L : List A} {i j : Nat} {u v : A}, (L.filterMap f).Nodup → L[i]? = some u → L[j]? = some v → f u = some g → f v = some g → i = j
  | [], _, _, _, _, _, h, _, _, _ => by simp at h
  | x :: L, i, j, u, v, hn, h1, h2, h3, h4 => by
    have hm : ∀ {q : Nat} {y : A}, L[q]? = some y → f y = some g → g ∈ L.filterMap f := fun hq hy => List.mem_filterMap.2 ⟨_, List.mem_of_getElem? hq, hy⟩
    cases hx : f x with
    | none =>
      rw [List.filterMap_cons_none hx] at hn
      cases i with
      | zero => simp at h1; subst h1; rw [hx] at h3; cases h3
      | succ i =>
        cases j with
        | zero => simp at h2; subst h2; rw [hx] at h4; cases h4
        | succ j => exact congrArg (· + 1) (filterMap_inj hn (by simpa using h1) (by simpa using h2) h3 h4)
    | some b =>
      rw [List.filterMap_cons_some hx, List.nodup_cons] at hn
      cases i with
      | zero =>
        simp at h1; subst h1
        rw [hx] at h3; cases h3
        cases j with
        | zero => rfl
        | succ j => exact absurd (hm (by simpa using h2) h4) hn.1
      | succ i =>
        cases j with
        | zero =>
          simp at h2; subst h2
          rw [hx] at h4; cases h4
          exact absurd (hm (by simpa using h1) h3) hn.1
        | succ j => exact congrArg (· + 1) (filterMap_inj hn.2 (by simpa using h1) (by simpa using h2) h3 h4)

section
variable {own0 : Own} {w0 : World} {st : St} {a : Act} {w : World} {β : Bs} {col : Col}

/-- A root more, over a block that was there. -/
theorem Sat.pushOld (S : Sat own0 w0 st a w β col) {r : Root} {b : Option Base} (hr : rootRel (hpush st.heap r) (upd β st.heap.length b) col w st.heap.length r) :
    Sat own0 w0 { st with heap := hpush st.heap r } a w (upd β st.heap.length b) col ∧ ∀ c v, vrel st.heap β col w c v → vrel (hpush st.heap r) (upd β st.heap.length b) col w c v := by
  have hz : Zk col col w w := ⟨fun g x hg hx => ⟨hg, hx⟩⟩
  have same : ∀ n, n < st.heap.length → Same st.heap (hpush st.heap r) β (upd β st.heap.length b) col col w w n := fun n hn =>
    ⟨by rw [getN_push, if_pos hn], upd_ne _ _ (by omega), fun g x _ hx => ⟨rfl, hx⟩⟩
  have keep : ∀ c v, vrel st.heap β col w c v → vrel (hpush st.heap r) (upd β st.heap.length b) col w c v := fun c v hv =>
    vrel_keep hz (fun n hn => (same n hn).weak) same S.heap c v (vrel_sees c v hv) hv
  refine ⟨S.move hz (fun n hn => (same n hn).weak) same (fun t => .inr ⟨rfl, vrel_sees _ _ (S.env t)⟩) ?_ S.fr S.col (by rw [getN_push, if_pos (getN_lt S.zero)]; exact S.zero) (fun g _ h => h) (fun n x _ hx => ⟨upd_ne _ _ (by have := getN_lt hx; omega), x, by rw [getN_push, if_pos (getN_lt hx)]; exact hx, Shape.refl x⟩), keep⟩
  intro n x hx
  rw [getN_push] at hx
  split at hx
  · rename_i hn
    refine rootRel_keep hz (fun n hn => (same n hn).weak) same S.heap (same n hn) x (fun t vs e => ?_) (S.heap n x hx)
    subst e
    obtain ⟨b, cs, _, _, _, _, h5, _⟩ := S.heap n _ hx
    exact vrels_sees vs _ h5
  · split at hx
    · rename_i hn e; subst e
      cases hx
      exact hr
    · cases hx

theorem kill_vrel (S : Sat own0 w0 st a w β col) (m : Nat) : ∀ c v, vrel st.heap β col w c v → seesN m c = false → vrel (kill m st).heap β col w c v := fun c v hv hs =>
  vrel_keep (⟨fun g x hg1 hx => ⟨hg1, hx⟩⟩ : Zk col col w w) (p := fun n => n ≠ m) (q := fun n => n ≠ m ∧ ∃ s, rowsOf st.heap n = some s) (fun n hn => forget_weak hn) (fun n hn => forget_same hn.1 hn.2.choose_spec) S.heap c v
    (sees_not hv hs (fun n r hn _ _ => hn) (fun n s hn hs => ⟨hn, s, hs⟩)) hv
theorem forget_vrel (S : Sat own0 w0 st a w β col) (m : Nat) (c : AV) (v : Value) (hv : vrel st.heap β col w c v) : vrel (kill m st).heap β col w (forget m c) v := by
  rcases forget_or m c with h | ⟨h, h2⟩
  · rw [h]; trivial
  · rw [h]; exact kill_vrel S m c v hv h2

theorem recolor_vrel (S : Sat own0 w0 st a w β col) {p : Nat → Prop} (c : Nat × Bool) (hp : ∀ g, p g → ∃ m x, m ≠ 0 ∧ col g = some (m, x) ∧ (getN st.heap m = some .dead ∨ getN st.heap m = none)) (v : AV) (x : Value)
    (hv : vrel st.heap β col w v x) : vrel st.heap β (recol col p c) w v x := by
  have live : ∀ m r, getN st.heap m = some r → r ≠ .dead → ∀ g x, col g = some (m, x) → recol col p c g = col g := by
    intro m r hr hd g x hg
    refine recol_no (fun h => ?_)
    obtain ⟨m', x', _, h1, h2⟩ := hp g h
    rw [hg] at h1; cases h1
    rcases h2 with h2 | h2 <;> rw [hr] at h2 <;> cases h2
    exact hd rfl
  have zk : Zk col (recol col p c) w w := ⟨fun g x hg hx => ⟨by
    show recol col p c g = none
    rw [recol_no (fun h => by obtain ⟨m', x', hm0, h1, _⟩ := hp g h; rw [show col g = none from hg] at h1; cases h1)]; exact hg, hx⟩⟩
  have same : ∀ m, (∃ r, getN st.heap m = some r ∧ r ≠ .dead) → Same st.heap st.heap β β col (recol col p c) w w m := fun m ⟨r, hr, hd⟩ =>
    ⟨rfl, rfl, fun g x hg hx => by obtain ⟨y, hy⟩ := hg; exact ⟨live m r hr hd g y hy, hx⟩⟩
  exact vrel_keep zk (fun m hm => (same m hm).weak) same S.heap v x (sees_of (fun n r hr hd => ⟨r, hr, hd⟩) (fun n s i c y hs _ => ⟨_, rowOf_get hs, by simp⟩) v x hv) hv

/-- What is known of an inner row's value. -/
theorem sub_cap (S : Sat own0 w0 st a w β col) {n j c : Nat} {v : Value} {s : Sl} (hv : vrel st.heap β col w (.sub n j c) v) (hr : readSl st.heap (.sub n j c) = some s) :
    rep w (inner col n) (.sl s.e s.k) s.xs [v] ∧ capP w (inner col n) s.e s.k.sz v := by
  obtain ⟨s0, b, cs, fz, h1, h2, h3, h4, h5, _⟩ := hv
  have hR := rowRel S h1
  simp only [readSl] at hr
  rw [rowOf_get h1] at hr
  simp only at hr
  unfold rootRel at hR
  rw [h2] at hR
  obtain ⟨cs', fz', hc, hw, _, _, hsz, hel, how⟩ := hR
  rw [hw] at h4
  cases h4
  have he := hel j h3
  have hg : getAt s0.k.dflt s0.xs j = s0.xs[j] := by simp [getAt, h3]
  rw [hg] at hr
  split at hr
  · rename_i e' k' ys hs
    cases hr
    have hc : c < s0.k.sz := by
      have lt : ∀ (k : Kind) (x : k.den) (c : Nat) {y : AV}, subAt k x c = some y → c < k.sz := by
        intro k
        induction k with
        | int _ => intro x c y h; simp [subAt] at h
        | bool => intro x c y h; simp [subAt] at h
        | str => intro x c y h; simp [subAt] at h
        | pair p q ihp ihq =>
          intro x c y h
          simp only [subAt, cn] at h
          simp only [Kind.sz]
          cases hb : Nat.blt c p.sz with
          | true => have : c < p.sz := Nat.le_of_ble_eq_true hb; omega
          | false => rw [hb] at h; have := ihq _ _ h; omega
        | sl e k _ =>
          intro x c y h
          cases c with
          | zero => simp [Kind.sz]
          | succ c => simp [subAt] at h
      exact lt _ _ _ hs
    have hi : inK w (inner col n) s0.k (seg cs (b.o + j * s0.k.sz) s0.k.sz) := by
      rcases how with h | h
      · exact inK_flat h
      · exact h.2 j h3
    exact rep_sub he hi hs (by rw [seg_get hc]; exact h5)
  · cases hr

/-- An inner row is taken out. -/
theorem take_ok (S : Sat own0 w0 st a w β col) {n i q : Nat} {s : Sl} {e : Nat} {k : Kind} {xs : List k.den} {v : Value} (hv : vrel st.heap β col w (.sub n i q) v) (hs : readSl st.heap (.sub n i q) = some s)
    (hr : getN st.heap n = some (.rows e k xs)) (hf : flat s.k = true) :
    ∃ (mb : Option Base) (β1 : Bs) (col1 : Col), Sat own0 w0 (takeS n s st) a w β1 col1 ∧ (∀ j, j < st.heap.length → β1 j = β j) ∧ β1 st.heap.length = mb ∧
      vrel (takeS n s st).heap β1 col1 w (.ref st.heap.length) v ∧ (∀ b, mb = some b → col b.g = some (n, false) ∧ blk v = some b.g) ∧ (mb = none → blk v = none) ∧
      (∀ g, (∀ b, mb = some b → g ≠ b.g) → col1 g = if (∃ y, col g = some (n, y)) then some (0, false) else col g) ∧
      (∀ c x, vrel st.heap β col w c x → vrel (takeS n s st).heap β1 col1 w (forget n c) x) := by
  obtain ⟨hrep, hcap⟩ := sub_cap S hv hs
  obtain ⟨A, c, hA, hc, hel⟩ := hrep
  cases hA
  have hn0 := live_ne S.zero hr (by simp)
  have hlt := getN_lt hr
  have hlen : (kill n st).heap.length = st.heap.length := by show (setN (forgetH n st.heap) n .dead).length = _; rw [setN_len, forgetH_len]
  have hdead : getN (kill n st).heap n = some .dead := by
    show getN (setN (forgetH n st.heap) n .dead) n = _
    rw [getN_set, if_pos rfl, forgetH_len, if_pos hlt]
  have S1 := S.kill n
  -- the block that is taken
  obtain ⟨mb, hmb⟩ : ∃ mb : Option Base, (∀ b, mb = some b → col b.g = some (n, false) ∧ blk (.slice A (List.length s.xs) c) = some b.g ∧ A = some ⟨b.g, b.o, none⟩ ∧ b.o + c * s.k.sz ≤ b.S ∧ ∃ cs fz, w.heap[b.g]? = some (.cells cs s.e fz) ∧ unfrozen cs.size fz ∧ cs.size = b.S) ∧
      (mb = none → c = 0) := by
    rcases hcap with h | ⟨g, o, cs, fz, h1, h2, h3, h4, h5⟩
    · exact ⟨none, fun b h => (by cases h), fun _ => h⟩
    · by_cases hc0 : c = 0
      · exact ⟨none, fun b h => (by cases h), fun _ => hc0⟩
      · refine ⟨some ⟨g, o, cs.size⟩, fun b h => ?_, fun h => (by cases h)⟩
        cases h
        exact ⟨h2, by rw [h1]; simp [blk, hc0], h1, h5, cs, fz, h3, h4, rfl⟩
  obtain ⟨hmb1, hmb2⟩ := hmb
  -- colours
  have hp1 : ∀ g, ((∃ y, col g = some (n, y)) ∧ ∀ b, mb = some b → g ≠ b.g) → ∃ m x, m ≠ 0 ∧ col g = some (m, x) ∧ (getN (kill n st).heap m = some .dead ∨ getN (kill n st).heap m = none) := fun g ⟨⟨y, hy⟩, _⟩ => ⟨n, y, hn0, hy, .inl hdead⟩
  have S2 := S1.recolor (p := fun g => (∃ y, col g = some (n, y)) ∧ ∀ b, mb = some b → g ≠ b.g) (0, false) hp1
  have v2 := recolor_vrel S1 (p := fun g => (∃ y, col g = some (n, y)) ∧ ∀ b, mb = some b → g ≠ b.g) (0, false) hp1
  generalize hc2 : recol col (fun g => (∃ y, col g = some (n, y)) ∧ ∀ b, mb = some b → g ≠ b.g) (0, false) = col2 at S2 v2
  have hp2 : ∀ g, (∃ b, mb = some b ∧ g = b.g) → ∃ m x, m ≠ 0 ∧ col2 g = some (m, x) ∧ (getN (kill n st).heap m = some .dead ∨ getN (kill n st).heap m = none) := by
    rintro g ⟨b, hb, rfl⟩
    refine ⟨n, false, hn0, ?_, .inl hdead⟩
    rw [← hc2, recol_no (fun h => h.2 b hb rfl)]
    exact (hmb1 b hb).1
  have S3 := S2.recolor (p := fun g => ∃ b, mb = some b ∧ g = b.g) (st.heap.length, true) hp2
  have v3 := recolor_vrel S2 (p := fun g => ∃ b, mb = some b ∧ g = b.g) (st.heap.length, true) hp2
  generalize hc3 : recol col2 (fun g => ∃ b, mb = some b ∧ g = b.g) (st.heap.length, true) = col3 at S3 v3
  obtain ⟨S4, v4⟩ := S3.pushOld (r := .rows s.e s.k s.xs) (b := mb) (by
    unfold rootRel
    rw [upd_self]
    cases mb with
    | none =>
      have := hmb2 rfl
      exact List.eq_nil_of_length_eq_zero (by omega)
    | some b =>
      obtain ⟨q1, q2, q3, q4, cs, fz, q5, q6, q7⟩ := hmb1 b rfl
      refine ⟨cs, fz, by rw [hlen, ← hc3, recol_yes ⟨b, rfl, rfl⟩], q5, q7, q6, ?_, fun j hj => ?_, .inl hf⟩
      · have := Nat.mul_le_mul_right s.k.sz hc
        omega
      · rcases hel with h | ⟨g', o', cs', e2, fz', h1, h2, h3, h4⟩
        · rw [h] at hj; cases hj
        · rw [q3] at h1
          cases h1
          rw [q5] at h3
          cases h3
          exact rep_flat hf (h4 j hj))
  rw [hlen] at S4 v4
  have hcol : ∀ g, (∀ b, mb = some b → g ≠ b.g) → col3 g = if (∃ y, col g = some (n, y)) then some (0, false) else col g := by
    intro g hg
    rw [← hc3, recol_no (fun ⟨b, hb, e⟩ => hg b hb e), ← hc2]
    split
    · rename_i h; exact recol_yes ⟨h, hg⟩
    · rename_i h; exact recol_no fun h' => h h'.1
  refine ⟨mb, _, _, S4, fun j hj => upd_ne _ _ (by omega), upd_self _ _ _, ?_, fun b hb => ⟨(hmb1 b hb).1, (hmb1 b hb).2.1⟩, fun h => ?_, hcol, fun c x hx => v4 _ _ (v3 _ _ (v2 _ _ (forget_vrel S n c x hx)))⟩
  · refine ref_mk (s := s) (rowOf_of (by show getN (hpush (kill n st).heap _) _ = _; rw [getN_push, hlen, if_neg (by omega), if_pos rfl])) ⟨A, c, rfl, hc, ?_⟩
    rw [upd_self]
    cases mb with
    | none => exact ⟨hmb2 rfl, rfl⟩
    | some b =>
      obtain ⟨q1, q2, q3, q4, _⟩ := hmb1 b rfl
      exact ⟨.inr (by rw [q3]; simp), by simpa using q4⟩
  · have := hmb2 h
    subst this
    cases A <;> simp [blk]
end
end Go.Proofs.YtlkbmcmglkdciaaE
