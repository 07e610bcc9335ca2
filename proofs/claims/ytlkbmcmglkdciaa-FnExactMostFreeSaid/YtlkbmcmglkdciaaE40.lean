/- What was taken out is put back: the whole state. No condition. -/
import Derived.Test.YtlkbmcmglkdciaaE39
set_option linter.unusedVariables false
set_option linter.unusedSectionVars false
set_option linter.unusedSimpArgs false
namespace Go.Proofs.YtlkbmcmglkdciaaE
open Go Go.RowKit
open Classical

theorem inK_cap {w w' : World} {Z Z' : Nat → Prop} (hz : ∀ e sz c, capP w Z e sz c → capP w' Z' e sz c) : ∀ {k : Kind} {vs : List Value}, inK w Z k vs → inK w' Z' k vs
  | .int _, _, _ => trivial
  | .bool, _, _ => trivial
  | .str, _, _ => trivial
  | .pair a b, _, h => ⟨inK_cap hz h.1, inK_cap hz h.2⟩
  | .sl _ _, _, h => fun v hv => hz _ _ _ (h v hv)
theorem flat2_sub {e' : Nat} {k' : Kind} {ys : List k'.den} : ∀ {k : Kind} {x : k.den} {j : Nat}, flat2 k = true → subAt k x j = some (.row e' k' ys) → flat k' = true := by
  intro k
  induction k with
  | int _ => intro x j _ h; simp [subAt] at h
  | bool => intro x j _ h; simp [subAt] at h
  | str => intro x j _ h; simp [subAt] at h
  | pair p q ihp ihq =>
    intro x j hf h
    simp only [flat2, Bool.and_eq_true] at hf
    simp only [subAt, cn] at h
    cases hb : Nat.blt j p.sz with
    | true => rw [hb] at h; exact ihp hf.1 h
    | false => rw [hb] at h; exact ihq hf.2 h
  | sl e k ih =>
    intro x j hf h
    cases j with
    | zero => simp only [subAt, Option.some.injEq] at h; cases h; exact hf
    | succ j => simp [subAt] at h
theorem subAt_lt : ∀ (k : Kind) (x : k.den) (c : Nat) {y : AV}, subAt k x c = some y → c < k.sz := by
  intro k
  induction k with
  | int _ => intro x c y h; simp [subAt] at h
  | bool => intro x c y h; simp [subAt] at h
  | str => intro x c y h; simp [subAt] at h
  | pair p q ihp ihq =>
    intro x c y h
    simp only [subAt, cn] at h
    simp only [Kind.sz]
    cases hb : Nat.blt c p.sz with
    | true => have : c < p.sz := Nat.le_of_ble_eq_true hb; omega
    | false => rw [hb] at h; have := ihq _ _ h; omega
  | sl e k _ =>
    intro x c y h
    cases c with
    | zero => simp [Kind.sz]
    | succ c => simp [subAt] at h

section
variable {own0 : Own} {w0 : World} {st : St} {a : Act} {w : World} {β : Bs} {col : Col}

theorem fill_ok (S : Sat own0 w0 st a w β col) {n i q : Nat} {s : Sl} {e : Nat} {k : Kind} {xs : List k.den} {v : Value} (hv : vrel st.heap β col w (.sub n i q) v)
    (hr : getN st.heap n = some (.rows e k xs)) (hf2 : flat2 k = true)
    {mb : Option Base} {β1 : Bs} {col1 : Col} (S1 : Sat own0 w0 (takeS n s st) a w β1 col1) (t1 : ∀ j, j < st.heap.length → β1 j = β j) (t2 : β1 st.heap.length = mb)
    (t3 : vrel (takeS n s st).heap β1 col1 w (.ref st.heap.length) v) (t4 : ∀ b, mb = some b → col b.g = some (n, false) ∧ blk v = some b.g)
    (t6 : ∀ g, (∀ b, mb = some b → g ≠ b.g) → col1 g = if (∃ y, col g = some (n, y)) then some (0, false) else col g)
    {hs' gs : List Nat} {st2 : St} {a2 : Act} {w2 : World} {β2 : Bs} {col2 : Col} (S2 : Sat own0 w0 st2 a2 w2 β2 col2)
    (K : Kept hs' gs (takeS n s st).heap st2.heap w w2 col1 col2 β1 β2) (hm : st.heap.length ∈ hs') (hnf : st2.nf = st.nf)
    {x : k.den} {ms : List Nat} (hden : denAt st2.heap k (getAt k.dflt xs i) (splice (cellsK k (getAt k.dflt xs i)) q [.ref st.heap.length]) = some (x, ms))
    {d : Option Nat} {vv : Value} (ha2 : a2 = a.put d vv) :
    ∃ β3 col3, Sat own0 w0 { kill st.heap.length st2 with env := backE n hs' gs d st.env (kill st.heap.length st2).env, heap := setN (backH n hs' gs 0 st.heap (kill st.heap.length st2).heap) n (.rows e k (xs.set i x)) } a2 w2 β3 col3 := by
  obtain ⟨s0, b, cs, fz, h1, h2, h3, h4, h5, y, h6⟩ := hv
  rw [rowOf_of hr] at h1
  cases h1
  simp only at h3 h4 h5 h6
  have hR := S.heap n _ hr
  unfold rootRel at hR
  rw [h2] at hR
  obtain ⟨cs', fz', k1, k2, k3, k4, k5, k6, k7⟩ := hR
  rw [k2] at h4; cases h4
  have hn0 := live_ne S.zero hr (by simp)
  have hlt := getN_lt hr
  have hq := subAt_lt _ _ _ h6
  have hgx : getAt k.dflt xs i = xs[i] := by simp [getAt, h3]
  rw [hgx] at hden h6
  obtain ⟨knd, kink⟩ : _ ∧ _ := k7.resolve_left (fun hf => by rw [subAt_flat _ _ _ hf] at h6; cases h6)
  -- the memory in between
  have hlenk : (setN (forgetH n st.heap) n Root.dead).length = st.heap.length := by rw [setN_len, forgetH_len]
  have H1lt : ∀ j, j < st.heap.length → getN (takeS n s st).heap j = getN (setN (forgetH n st.heap) n Root.dead) j := fun j hj => by
    show getN (hpush _ _) j = _
    rw [getN_push, hlenk, if_pos hj]
  have H1m : getN (takeS n s st).heap st.heap.length = some (.rows s.e s.k s.xs) := by
    show getN (hpush _ _) _ = _
    rw [getN_push, hlenk, if_neg (by omega), if_pos rfl]
  have H1len : (takeS n s st).heap.length = st.heap.length + 1 := by
    show (hpush _ _).length = _
    simp [hpush, hlenk]
  have H1n : getN (takeS n s st).heap n = some .dead := by
    rw [H1lt n hlt, getN_set, if_pos rfl, forgetH_len, if_pos hlt]
  have hm2 : ∃ xs2, rowsOf st2.heap st.heap.length = some ⟨s.e, s.k, xs2⟩ ∧ xs2.length = s.xs.length := by
    exact K.rowy _ _ (rowOf_of H1m) (K.nd _ hm)
  obtain ⟨xs2, hm2, hm2l⟩ := hm2
  have hβ2m : β2 st.heap.length = mb := by rw [K.base _ (by omega), t2]
  have hvm : vrel st2.heap β2 col2 w2 (.ref st.heap.length) v := by
    have e2 := ref_row t3 (rowOf_of H1m)
    refine ref_mk hm2 ?_
    rw [hβ2m, ← t2]
    simp only at e2 ⊢
    rw [hm2l]
    exact e2
  have R1 : ∀ b', mb = some b' → ∃ cs1 fz1, w.heap[b'.g]? = some (.cells cs1 s.e fz1) ∧ cs1.size = b'.S := fun b' hb' => by
    have := S1.heap _ _ H1m
    unfold rootRel at this
    rw [t2, hb'] at this
    obtain ⟨cs1, fz1, _, q2, q3, _⟩ := this
    exact ⟨cs1, fz1, q2, q3⟩
  have R2 : ∀ b', mb = some b' → ∃ cs2 fz2, col2 b'.g = some (st.heap.length, true) ∧ w2.heap[b'.g]? = some (.cells cs2 s.e fz2) ∧ cs2.size = b'.S ∧ unfrozen cs2.size fz2 := fun b' hb' => by
    have := S2.heap _ _ (rowOf_get hm2)
    unfold rootRel at this
    rw [hβ2m, hb'] at this
    obtain ⟨cs2, fz2, q1, q2, q3, q4, _⟩ := this
    exact ⟨cs2, fz2, q1, q2, q3, q4⟩
  have T1 : ∀ g y, col g = some (n, y) → (∀ b', mb = some b' → g ≠ b'.g) → col2 g = some (0, false) ∧ w2.heap[g]? = w.heap[g]? := fun g y hg hne => by
    have e1 : col1 g = some (0, false) := by rw [t6 g hne, if_pos ⟨y, hg⟩]
    obtain ⟨e2, e3⟩ := K.old g (S.col g (by rw [hg]; simp)).2 (fun n' x' h0 _ hc => by rw [e1] at hc; cases hc; exact h0 rfl)
    exact ⟨e2.trans e1, e3⟩
  have S2k := S2.kill st.heap.length
  generalize hhk : (YtlkbmcmglkdciaaE.kill st.heap.length st2).heap = hk at *
  have hkg : ∀ j, getN hk j = getN (setN (forgetH st.heap.length st2.heap) st.heap.length .dead) j := fun j => by rw [← hhk]; rfl
  have hklen : hk.length = st2.heap.length := by rw [← hhk]; show (setN _ _ _).length = _; rw [setN_len, forgetH_len]
  have hkm : getN hk st.heap.length = some .dead := by rw [hkg, getN_set, if_pos rfl, forgetH_len, if_pos (getN_lt (rowOf_get hm2))]
  have hkn : getN hk n = some .dead := by
    rw [hkg, getN_set, if_neg (by omega), getN_forget, K.dead n H1n]; rfl
  have boxK : ∀ j t ws, getN st.heap j = some (.box t ws) → j ∉ hs' → ∃ ws2, getN hk j = some (.box t ws2) ∧ ws2.length = ws.length := fun j t ws hj hns => by
    have hjn : j ≠ n := fun e => by subst e; rw [hr] at hj; cases hj
    have hjl := getN_lt hj
    have e1 : getN (takeS n s st).heap j = some (.box t (forgetL n ws)) := by
      rw [H1lt j hjl, getN_set, if_neg hjn, getN_forget, hj]; rfl
    obtain ⟨vs', e2, e3⟩ := K.box j t _ e1 hns
    refine ⟨forgetL st.heap.length vs', ?_, by rw [forgetL_len, e3, forgetL_len]⟩
    rw [hkg, getN_set, if_neg (by omega), getN_forget, e2]; rfl
  have hzero : getN hk 0 = some .dead := by rw [← hhk]; exact S2k.zero
  have hlen3 : n < (backH n hs' gs 0 st.heap hk).length := by rw [backH_len, hklen]; have := K.len; omega
  have get3n : getN (setN (backH n hs' gs 0 st.heap hk) n (.rows e k (xs.set i x))) n = some (.rows e k (xs.set i x)) := by rw [getN_set, if_pos rfl, if_pos hlen3]
  have get3 : ∀ j, j ≠ n → getN (setN (backH n hs' gs 0 st.heap hk) n (.rows e k (xs.set i x))) j = getN hk j ∨
      ∃ t ws, getN st.heap j = some (.box t ws) ∧ j ∉ hs' ∧ ws.all (loose n hs' gs) = true ∧ getN (setN (backH n hs' gs 0 st.heap hk) n (.rows e k (xs.set i x))) j = some (.box t ws) := fun j hj => by
    rw [getN_set, if_neg hj]
    rcases backH_get n hs' gs st.heap hk 0 j with h | ⟨t, ws, q1, q2, q3, q4, _⟩
    · exact .inl h
    · exact .inr ⟨t, ws, q1, by simpa using q2, q3, q4⟩
  generalize hh3 : setN (backH n hs' gs 0 st.heap hk) n (.rows e k (xs.set i x)) = h3' at get3n get3 ⊢
  let col3 : Col := fun g => if (∃ y, col g = some (n, y)) then col g else col2 g
  have c3n : ∀ g y, col g = some (n, y) → col3 g = some (n, y) := fun g y hg => by
    show (if _ then _ else _) = _
    rw [if_pos ⟨y, hg⟩, hg]
  have c3o : ∀ g, (¬ ∃ y, col g = some (n, y)) → col3 g = col2 g := fun g hg => if_neg hg
  let β3 : Bs := upd β2 n (β n)
  have b3n : β3 n = β n := upd_self _ _ _
  have b3o : ∀ j, j ≠ n → β3 j = β2 j := fun j hj => upd_ne _ _ hj
  have Zs : Zk col col3 w w2 := ⟨fun g o hg hw => by
    have hg : col g = none := hg
    have e1 : col1 g = none := by
      rw [t6 g (fun b' hb' e => by rw [e, (t4 b' hb').1] at hg; cases hg), if_neg (by rintro ⟨y, h⟩; rw [hg] at h; cases h)]; exact hg
    obtain ⟨e2, e3⟩ := K.old g (Array.getElem?_eq_some_iff.1 hw).1 (fun _ _ _ _ hc => by rw [e1] at hc; cases hc)
    exact ⟨by show col3 g = none; rw [c3o g (by rintro ⟨y, h⟩; rw [hg] at h; cases h), e2, e1], by rw [e3]; exact hw⟩⟩
  have two : ∀ g y, col g = some (n, y) → col2 g = some (st.heap.length, true) ∨ col2 g = some (0, false) := fun g y hg => by
    by_cases h : ∃ b', mb = some b' ∧ g = b'.g
    · obtain ⟨b', hb', rfl⟩ := h
      obtain ⟨_, _, q, _⟩ := R2 b' hb'
      exact .inl q
    · exact .inr (T1 g y hg (fun b' hb' e => h ⟨b', hb', e⟩)).1
  have Z2 : Zk col2 col3 w2 w2 := ⟨fun g o hg hw => by
    have hg : col2 g = none := hg
    refine ⟨?_, hw⟩
    show col3 g = none
    rw [c3o g (by rintro ⟨y, h⟩; rcases two g y h with h | h <;> rw [hg] at h <;> cases h)]; exact hg⟩
  have liveC : ∀ j r, getN hk j = some r → r ≠ .dead → ∀ g y, col2 g = some (j, y) → col3 g = col2 g := fun j r hj hd g y hg => by
    refine c3o g ?_
    rintro ⟨y', h⟩
    rcases two g y' h with h | h <;> rw [hg] at h <;> cases h
    · rw [hkm] at hj; cases hj; exact hd rfl
    · rw [hzero] at hj; cases hj; exact hd rfl
  have ne_n : ∀ j r, getN hk j = some r → r ≠ .dead → j ≠ n := fun j r hj hd e => by subst e; rw [hkn] at hj; cases hj; exact hd rfl
  have sameK2 : ∀ j r, getN hk j = some r → r ≠ .dead → (∀ t vs, r ≠ .box t vs) → Same hk h3' β2 β3 col2 col3 w2 w2 j := fun j r hj hd hb => by
    have hjn := ne_n j _ hj hd
    refine ⟨?_, b3o j hjn, fun g o ⟨y, hg⟩ hw => ⟨liveC j _ hj hd g y hg, hw⟩⟩
    rcases get3 j hjn with h | ⟨t, ws, q1, q2, _, _⟩
    · exact h
    · obtain ⟨ws2, q3, _⟩ := boxK j t ws q1 q2
      rw [hj] at q3; cases q3
      exact absurd rfl (hb _ _)
  have sameK : ∀ j, (∃ s, rowsOf hk j = some s) → Same hk h3' β2 β3 col2 col3 w2 w2 j := fun j ⟨s', hs'⟩ => sameK2 j _ (rowOf_get hs') (by simp) (by simp)
  have weakK : ∀ j, (∃ r, getN hk j = some r ∧ r ≠ .dead) → Weak hk h3' β2 β3 j := fun j ⟨r, hj, hd⟩ => by
    have hjn := ne_n j _ hj hd
    cases r with
    | dead => exact absurd rfl hd
    | rows e' k' ys => exact (sameK j ⟨_, rowOf_of hj⟩).weak
    | hol e' k' ys q' => exact (sameK2 j _ hj (by simp) (by simp)).weak
    | box t vs =>
      refine ⟨b3o j hjn, fun r hr' => ?_⟩
      rw [hj] at hr'; cases hr'
      rcases get3 j hjn with h | ⟨t', ws, q1, q2, _, q4⟩
      · exact ⟨_, by rw [h]; exact hj, rfl, rfl⟩
      · obtain ⟨ws2, q3, q5⟩ := boxK j t' ws q1 q2
        rw [hj] at q3; cases q3
        exact ⟨_, q4, by simp [rsz, q5], rfl⟩
  have keep2 : ∀ c u, vrel hk β2 col2 w2 c u → vrel h3' β3 col3 w2 c u := fun c u hu =>
    vrel_keep Z2 (p := fun j => ∃ r, getN hk j = some r ∧ r ≠ .dead) (q := fun j => ∃ s, rowsOf hk j = some s) weakK sameK (by have := S2k.heap; rw [hhk] at this; exact this) c u
      (sees_of (fun j r hj hd => ⟨r, hj, hd⟩) (fun j s' _ _ _ hs' _ => ⟨s', hs'⟩) c u hu) hu
  have weakS : ∀ j, (j ∉ gs ∧ ∃ r, getN st.heap j = some r ∧ r ≠ .dead) → Weak st.heap h3' β β3 j := fun j ⟨hjg, r, hj, hd⟩ => by
    by_cases hjn : j = n
    · subst hjn
      refine ⟨b3n, fun r' hr' => ?_⟩
      · rw [hr] at hr'; cases hr'
        exact ⟨_, get3n, rfl, by simp [rlen]⟩
    · have hjl := getN_lt hj
      have w1 : Weak st.heap (takeS n s st).heap β β1 j := by
        have := forget_weak (st := st) (β := β) (m := n) (r1 := .dead) hjn
        refine ⟨t1 j hjl, fun r' hr' => ?_⟩
        · obtain ⟨r2, q1, q2⟩ := this.ptr r' hr'
          exact ⟨r2, by rw [H1lt j hjl]; exact q1, q2⟩
      have hj1 : ∃ r1, getN (takeS n s st).heap j = some r1 ∧ r1 ≠ .dead := by
        rw [H1lt j hjl, getN_set, if_neg hjn, getN_forget, hj]
        cases r with
        | dead => exact absurd rfl hd
        | rows _ _ _ => exact ⟨_, rfl, by simp⟩
        | hol _ _ _ _ => exact ⟨_, rfl, by simp⟩
        | box _ _ => exact ⟨_, rfl, by simp⟩
      obtain ⟨r1, hj1, hd1⟩ := hj1
      have w2' := K.weak j r1 hj1 hd1 hjg
      have w3 : Weak st2.heap hk β2 β2 j := by
        have := forget_weak (st := st2) (β := β2) (m := st.heap.length) (r1 := .dead) (n := j) (by omega)
        refine ⟨rfl, fun r' hr' => ?_⟩
        · obtain ⟨r2, q1, q2⟩ := this.ptr r' hr'
          exact ⟨r2, by rw [hkg]; exact q1, q2⟩
      have w123 := (w1.trans w2').trans w3
      refine w123.trans (weakK j ?_)
      cases r with
      | dead => exact absurd rfl hd
      | rows e' k' ys =>
        obtain ⟨r2, q1, q2, _⟩ := w123.ptr _ hj
        exact ⟨r2, q1, nd_of_sz (by rw [q2]; exact kindSz _)⟩
      | hol e' k' ys q' =>
        obtain ⟨r2, q1, q2, _⟩ := w123.ptr _ hj
        exact ⟨r2, q1, nd_of_sz (by rw [q2]; exact kindSz _)⟩
      | box t vs =>
        obtain ⟨r2, q1, _, q3⟩ := w123.ptr _ hj
        exact ⟨r2, q1, by rintro rfl; simp [rlen] at q3⟩
  have hbne : ∀ b', mb = some b' → b.g ≠ b'.g := fun b' hb' e => by
    have := (t4 b' hb').1
    rw [← e, k1] at this; cases this
  have sameS : ∀ j s', j ≠ n → j ∉ hs' → j ∉ gs → rowsOf st.heap j = some s' → Same st.heap h3' β β3 col col3 w w2 j := fun j s' hjn hjh hjg hj => by
    have hjl := getN_lt (rowOf_get hj)
    have e1 : rowsOf (takeS n s st).heap j = some s' := rowOf_of (by rw [H1lt j hjl, getN_set, if_neg hjn, getN_forget, rowOf_get hj]; rfl)
    have e2 := K.same j s' e1 hjh hjg
    have e3 : getN hk j = some (.rows s'.e s'.k s'.xs) := by rw [hkg, getN_set, if_neg (by omega), getN_forget, rowOf_get e2]; rfl
    refine ⟨?_, by rw [b3o j hjn, K.base j (by omega), t1 j hjl], fun g o ⟨y, hg⟩ hw => ?_⟩
    · rw [rowOf_get hj]
      rcases get3 j hjn with h | ⟨t, ws, q1, _⟩
      · rw [h]; exact e3
      · rw [rowOf_get hj] at q1; cases q1
    · have hcne : ¬ ∃ y, col g = some (n, y) := by rintro ⟨y', h⟩; rw [hg] at h; cases h; exact hjn rfl
      have c1 : col1 g = some (j, y) := by rw [t6 g (fun b' hb' e => hcne ⟨false, by rw [e]; exact (t4 b' hb').1⟩), if_neg hcne]; exact hg
      obtain ⟨e4, e5⟩ := K.old g (Array.getElem?_eq_some_iff.1 hw).1 (fun n' x' h0 hor hc => by
        rw [c1] at hc; cases hc
        rcases hor with h | h
        · exact hjh h
        · exact hjg h)
      exact ⟨by rw [c3o g hcne, e4, c1, hg], by rw [e5]; exact hw⟩
  have keep1 : ∀ c u, loose n hs' gs c = true → vrel st.heap β col w c u → vrel h3' β3 col3 w2 c u := fun c u hl hu => by
    refine loose_keep (loose1_keep (n := n) (hs := hs') (gs := gs) (fun c u hm hns hl hu => ?_) (fun j i' c' u hor hu => ?_)) c u hl hu
    · refine vrel_keep Zs (p := fun j => j ∉ gs ∧ ∃ r, getN st.heap j = some r ∧ r ≠ .dead) (q := fun _ => False) weakS (fun _ h => h.elim) S.heap c u ?_ hu
      cases c <;> simp only [loose1] at hl <;> first | (cases hl; done) | trivial | skip
      · obtain ⟨r, h1, h0, _⟩ := hu; exact ⟨hm _ (.ref _), r, h1, nd_of_sz h0⟩
      · obtain ⟨r, h1, h0, _⟩ := hu; exact ⟨hm _ (.win _ _ _), r, h1, nd_of_sz h0⟩
      · exact absurd rfl (hns _ _ _)
      · obtain ⟨r, b', h1, h2, h3, h4⟩ := hu; exact ⟨hm _ (.ptr _ _ _), r, h1, by rintro rfl; simp [rlen] at h4⟩
    · rcases hor with rfl | ⟨hjh, hjg⟩
      · obtain ⟨s0, b0, cs0, fz0, p1, p2, p3, p4, p5, y0, p6⟩ := hu
        rw [rowOf_of hr] at p1; cases p1
        rw [h2] at p2; cases p2
        simp only at p3 p4 p5 p6
        obtain ⟨y', hy'⟩ := subAt_ex k _ (getAt k.dflt (xs.set i x) i') c' p6
        exact ⟨⟨e, k, xs.set i x⟩, b, cs0, fz0, rowOf_of get3n, by rw [b3n]; exact h2, by simpa using p3, by simp only; rw [(T1 b.g true k1 hbne).2]; exact p4, p5, y', hy'⟩
      · by_cases hjn : j = n
        · subst hjn
          obtain ⟨s0, b0, cs0, fz0, p1, p2, p3, p4, p5, y0, p6⟩ := hu
          rw [rowOf_of hr] at p1; cases p1
          rw [h2] at p2; cases p2
          simp only at p3 p4 p5 p6
          obtain ⟨y', hy'⟩ := subAt_ex k _ (getAt k.dflt (xs.set i x) i') c' p6
          exact ⟨⟨e, k, xs.set i x⟩, b, cs0, fz0, rowOf_of get3n, by rw [b3n]; exact h2, by simpa using p3, by simp only; rw [(T1 b.g true k1 hbne).2]; exact p4, p5, y', hy'⟩
        · have hs0 := hu
          obtain ⟨s0, _, _, _, p1, _⟩ := hs0
          exact vrel_keep Zs (p := fun _ => False) (q := fun m => m = j) (fun _ h => h.elim) (fun m hm => by subst hm; exact sameS m s0 hjn hjh hjg p1) S.heap (.sub j i' c') u rfl hu
  have keep1s : ∀ cs us, cs.all (loose n hs' gs) = true → vrels st.heap β col w cs us → vrels h3' β3 col3 w2 cs us := fun cs us hl hu => looses_keep keep1 cs us hl hu
  -- capacities
  have capT : ∀ e' sz c, capP w (inner col n) e' sz c → capP w2 (inner col3 n) e' sz c := fun e' sz c hc => by
    unfold capP at hc ⊢
    split
    · rename_i A l q'
      rcases hc with h | ⟨g, o, cs0, fz0, q1, q2, q3, q4, q5⟩
      · exact .inl h
      · by_cases h : ∃ b', mb = some b' ∧ g = b'.g
        · obtain ⟨b', hb', rfl⟩ := h
          obtain ⟨cs1, fz1, p1, p2⟩ := R1 b' hb'
          obtain ⟨cs2, fz2, _, p3, p4, p5⟩ := R2 b' hb'
          rw [p1] at q3
          cases q3
          exact .inr ⟨b'.g, o, cs2, fz2, q1, c3n _ _ q2, p3, p5, by omega⟩
        · obtain ⟨_, e3⟩ := T1 g false q2 (fun b' hb' e => h ⟨b', hb', e⟩)
          exact .inr ⟨g, o, cs0, fz0, q1, c3n _ _ q2, by rw [e3]; exact q3, q4, q5⟩
    · trivial
  -- elements
  have repT : ∀ {k' : Kind} {x' : k'.den} {vs : List Value}, flat2 k' = true → rep w (inner col n) k' x' vs → (∀ g ∈ vs.filterMap blk, ∀ b', mb = some b' → g ≠ b'.g) → rep w2 (inner col3 n) k' x' vs := fun hf hrep hne =>
    rep_mono (fun g o hg hw => by
      obtain ⟨q1, q2⟩ := hg
      obtain ⟨_, e3⟩ := T1 g false q1 q2
      exact ⟨c3n _ _ q1, by rw [e3]; exact hw⟩) (rep_apart hf hrep hne)
  have apart : ∀ p u, p < xs.length * k.sz → cs[b.o + p]? = some u → p ≠ i * k.sz + q → ∀ g, blk u = some g → ∀ b', mb = some b' → g ≠ b'.g := fun p u hp hu hne g hg b' hb' e => by
    subst e
    refine hne (filterMap_inj knd (i := p) (j := i * k.sz + q) (u := u) (v := v) (g := b'.g) ?_ ?_ hg (t4 b' hb').2)
    · rw [seg_get hp]; exact hu
    · rw [seg_get, ← Nat.add_assoc]
      · exact h5
      · have : (i + 1) * k.sz ≤ xs.length * k.sz := Nat.mul_le_mul_right _ h3
        rw [Nat.add_mul] at this; omega
  have hpos := sz_pos k
  have hle : ∀ j, j < xs.length → j * k.sz + k.sz ≤ xs.length * k.sz := fun j hj => by
    have : (j + 1) * k.sz ≤ xs.length * k.sz := Nat.mul_le_mul_right _ hj
    rw [Nat.add_mul] at this; omega
  have repO : ∀ j, ∀ hj : j < xs.length, j ≠ i → rep w2 (inner col3 n) k xs[j] (seg cs (b.o + j * k.sz) k.sz) := fun j hj hji => by
    refine repT hf2 (k6 j hj) fun g hg => ?_
    obtain ⟨j', u, q1, q2, q3⟩ := seg_blk_mem hg
    have := hle j hj
    refine apart (j * k.sz + j') u (by omega) (by rw [← Nat.add_assoc]; exact q2) (fun e => hji ?_) g q3
    have e1 : (j * k.sz + j') / k.sz = j := by rw [Nat.add_comm, Nat.add_mul_div_right _ _ hpos, Nat.div_eq_of_lt q1]; simp
    have e2 : (i * k.sz + q) / k.sz = i := by rw [Nat.add_comm, Nat.add_mul_div_right _ _ hpos, Nat.div_eq_of_lt hq]; simp
    rw [← e1, e, e2]
  have hold := k6 i h3
  obtain ⟨lK, cK⟩ := cellsK_ok (h := st.heap) (β := β) (col := col) hold (kink i h3)
  have hxl := rep_len hold
  have hsp : splice (cellsK k xs[i]) q [.ref st.heap.length] = (cellsK k xs[i]).take q ++ [.ref st.heap.length] ++ (cellsK k xs[i]).drop (q + 1) := by simp [splice, takeN_eq, dropN_eq, lenN_eq]
  have hget : ∀ j u, (splice (cellsK k xs[i]) q [.ref st.heap.length])[j]? = some u → (j = q ∧ u = .ref st.heap.length) ∨ (j ≠ q ∧ (cellsK k xs[i])[j]? = some u) := fun j u hu => by
    rw [hsp] at hu
    by_cases hj1 : j < q
    · rw [List.append_assoc, List.getElem?_append_left (by simp; omega), List.getElem?_take, if_pos hj1] at hu
      exact .inr ⟨by omega, hu⟩
    · by_cases hj2 : j = q
      · subst hj2
        rw [List.getElem?_append_left (by simp; omega), List.getElem?_append_right (by simp; omega)] at hu
        simp only [List.length_take] at hu
        rw [Nat.min_eq_left (by omega), Nat.sub_self] at hu
        simp at hu
        exact .inl ⟨rfl, hu.symm⟩
      · rw [List.getElem?_append_right (by simp; omega), List.getElem?_drop] at hu
        simp only [List.length_append, List.length_take, List.length_cons, List.length_nil] at hu
        rw [Nat.min_eq_left (by omega), show q + 1 + (j - (q + (0 + 1))) = j by omega] at hu
        exact .inr ⟨hj2, hu⟩
  have hD := denAt_ok S2 (Z0 := inner col3 n) hden (cs := seg cs (b.o + i * k.sz) k.sz) (by rw [hsp, hxl]; simp [lK]; omega) (fun j u c hu hc => by
    have hjs : j < k.sz := by
      have := (List.getElem?_eq_some_iff.1 hc).1
      rw [hxl] at this; exact this
    have hc' : cs[b.o + (i * k.sz + j)]? = some c := by rw [seg_get hjs] at hc; rw [← Nat.add_assoc]; exact hc
    rcases hget j u hu with ⟨rfl, rfl⟩ | ⟨hjq, hu⟩
    · refine ⟨fun h => by simp at h, fun _ => ?_⟩
      rw [← Nat.add_assoc, h5] at hc'; cases hc'
      exact hvm
    · obtain ⟨q1, q2⟩ := cK j u c hu hc
      refine ⟨fun h e' k' ys hs => ?_, fun h => scal_vrel (cellsK_scal (List.mem_of_getElem? hu)) (q2 h)⟩
      obtain ⟨q3, q4⟩ := q1 h e' k' ys hs
      refine ⟨repT (flat2_sub hf2 hs) q3 fun g hg => ?_, capT _ _ _ q4⟩
      have hg' : blk c = some g := by
        cases hb : blk c with
        | none => simp [hb] at hg
        | some g' => simp [hb] at hg; rw [hg]
      have := hle i h3
      exact apart (i * k.sz + j) c (by omega) hc' (by omega) g hg')
  obtain ⟨⟨hrep, _⟩, _⟩ := hD
  have hrepI : rep w2 (inner col3 n) k x (seg cs (b.o + i * k.sz) k.sz) := by
    refine rep_mono (fun g o hg hw => ⟨hg.elim id fun hg => ?_, hw⟩) hrep
    obtain ⟨m', hm', hb'⟩ := List.mem_filterMap.1 hg
    have hin := denAt_ms hden m' hm'
    have : m' = st.heap.length := by
      obtain ⟨j, hj⟩ := List.mem_iff_getElem?.1 hin
      rcases hget j _ hj with ⟨_, h⟩ | ⟨_, h⟩
      · cases h; rfl
      · have := cellsK_scal (List.mem_of_getElem? h); cases this
    subst this
    rw [hβ2m] at hb'
    cases hmb : mb with
    | none => rw [hmb] at hb'; cases hb'
    | some b' =>
      rw [hmb] at hb'
      simp at hb'
      subst hb'
      exact c3n _ _ (t4 b' hmb).1
  have hroot : rootRel h3' β3 col3 w2 n (.rows e k (xs.set i x)) := by
    unfold rootRel
    rw [b3n, h2]
    refine ⟨cs, fz, c3n _ _ k1, by rw [(T1 b.g true k1 hbne).2]; exact k2, k3, k4, by rw [List.length_set]; exact k5, fun j hj => ?_, .inr ⟨by rw [List.length_set]; exact knd, fun j hj => inK_cap capT (kink j (by simpa using hj))⟩⟩
    simp only [List.length_set] at hj
    by_cases hji : j = i
    · subst hji
      rw [List.getElem_set_self]; exact hrepI
    · rw [List.getElem_set_ne (Ne.symm hji)]
      exact repO j hj hji
  refine ⟨β3, col3, ?_⟩
  refine ⟨fun t => ?_, fun j r hj => ?_, S2k.nt, S2k.defers, S2k.fr, fun g hg => ?_, ?_, fun g hg hc => ?_, fun j b' r hj => ?_⟩
  · show vrel h3' β3 col3 w2 (lk (backE n hs' gs d st.env (YtlkbmcmglkdciaaE.kill st.heap.length st2).env) t) _
    rcases backE_or n hs' gs d st.env (YtlkbmcmglkdciaaE.kill st.heap.length st2).env t with h | h | ⟨hd, h, hl⟩
    · rw [h]; trivial
    · rw [h]
      refine keep2 _ _ ?_
      have := S2k.env t
      rw [hhk] at this
      exact this
    · rw [h]
      refine keep1 _ _ hl ?_
      have e1 : a2.tmps.getD t undef = a.tmps.getD t undef := by
        rw [ha2]
        cases d with
        | none => rfl
        | some d =>
          have hdt : d ≠ t := fun e => hd (by rw [e])
          rw [Act.put_tmps]
          simp [Array.getD_eq_getD_getElem?, Array.getElem?_setIfInBounds, hdt]
      rw [e1]
      exact S.env t
  · show rootRel h3' β3 col3 w2 j r
    have hj : getN h3' j = some r := hj
    by_cases hjn : j = n
    · subst hjn
      rw [get3n] at hj; cases hj
      exact hroot
    · rcases get3 j hjn with h | ⟨t, ws, q1, q2, q3, q4⟩
      · rw [h] at hj
        by_cases hd : r = .dead
        · subst hd; trivial
        · have hrr : rootRel hk β2 col2 w2 j r := by have := S2k.heap j r (by rw [hhk]; exact hj); rw [hhk] at this; exact this
          have hs : Same hk h3' β2 β3 col2 col3 w2 w2 j := ⟨h, b3o j hjn, fun g o ⟨y, hg⟩ hw => ⟨liveC j r hj hd g y hg, hw⟩⟩
          refine rootRel_keep Z2 (p := fun j => ∃ r, getN hk j = some r ∧ r ≠ .dead) (q := fun j => ∃ s, rowsOf hk j = some s) weakK sameK (by have := S2k.heap; rw [hhk] at this; exact this) hs r (fun t vs e => ?_) hrr
          subst e
          obtain ⟨b', cs', _, _, _, _, h5', h6'⟩ := hrr
          exact cells_sees (fun n r hr hd => ⟨r, hr, hd⟩) h6' h5'
      · rw [q4] at hj; cases hj
        obtain ⟨b', cs', p1, p2, p3, p4, p5, p6⟩ := S.heap j _ q1
        have hjl := getN_lt q1
        have hcne : ¬ ∃ y, col b'.g = some (n, y) := by rintro ⟨y, h⟩; rw [p3] at h; cases h; exact hjn rfl
        have e1 : col1 b'.g = some (j, true) := by
          rw [t6 _ (fun b'' hb'' e => hcne ⟨false, by rw [e]; exact (t4 b'' hb'').1⟩), if_neg hcne]; exact p3
        obtain ⟨e2, e3⟩ := K.old b'.g (S.col _ (by rw [p3]; simp)).2 (fun n' x' h0 hor hc => by
          rw [e1] at hc; cases hc
          rcases hor with h | h
          · exact q2 h
          · have hb1 : getN (takeS n s st).heap j = some (.box t (forgetL n ws)) := by
              rw [H1lt j hjl, getN_set, if_neg hjn, getN_forget, q1]; rfl
            obtain ⟨_, _, _, h⟩ := K.given j _ h hb1
            cases h)
        exact ⟨b', cs', by rw [b3o j hjn, K.base j (by omega), t1 j hjl]; exact p1, p2, by rw [c3o _ hcne, e2]; exact e1, by rw [e3]; exact p4, keep1s _ _ q3 p5, p6⟩
  · show ((∃ x', col3 g = some (0, x')) ∨ _ ∨ _) ∧ _
    by_cases h : ∃ y, col g = some (n, y)
    · obtain ⟨y, h⟩ := h
      obtain ⟨q1, q2⟩ := S.col g (by rw [h]; simp)
      exact ⟨.inr (q1.resolve_left (fun ⟨x', hx⟩ => by rw [h] at hx; cases hx; exact hn0 rfl)), Nat.lt_of_lt_of_le q2 K.size⟩
    · have hg : col3 g ≠ none := hg
      rw [c3o g h] at hg ⊢
      exact S2.col g hg
  · show getN h3' 0 = some .dead
    rcases get3 0 (Ne.symm hn0) with h | ⟨t, ws, q1, _⟩
    · rw [h]; exact hzero
    · rw [S.zero] at q1; cases q1
  · have hc : col3 g = none := hc
    by_cases h : ∃ y, col g = some (n, y)
    · obtain ⟨y, h⟩ := h
      rw [c3n g y h] at hc; cases hc
    · rw [c3o g h] at hc
      exact S2.zon g hg hc
  · obtain ⟨p1, p2, r1, p3, p4⟩ := S2k.fix j b' r hj
    obtain ⟨p5, p6, r2, p7, p8⟩ := S.fix j b' r hj
    refine ⟨p1, ?_, ?_⟩
    · by_cases hjn : j = n
      · subst hjn; rw [b3n]; exact p6
      · rw [b3o j hjn]; exact p2
    · show ∃ r', getN h3' j = some r' ∧ Shape r r'
      by_cases hjn : j = n
      · subst hjn
        rw [hr] at p7; cases p7
        exact ⟨_, get3n, p8.trans ⟨rfl, rfl, by simp⟩⟩
      · rcases get3 j hjn with h | ⟨t, ws, q1, _, _, q4⟩
        · rw [hhk] at p3
          exact ⟨r1, by rw [h]; exact p3, p4⟩
        · rw [q1] at p7; cases p7
          exact ⟨_, q4, p8⟩
end
end Go.Proofs.YtlkbmcmglkdciaaE
