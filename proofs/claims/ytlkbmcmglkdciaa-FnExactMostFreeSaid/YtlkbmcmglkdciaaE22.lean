/- The head of a loop holds. No condition. -/
import Derived.Test.YtlkbmcmglkdciaaE21
set_option linter.unusedVariables false
set_option linter.unusedSectionVars false
set_option linter.unusedSimpArgs false
namespace Go.Proofs.YtlkbmcmglkdciaaE
open Go Go.RowKit
open Classical

noncomputable def preR (r : Ren) (n : Nat) : Option Nat := if h : ∃ o, renGet r.m o = some n then some h.choose else none
theorem preR_of {old : List Root} {r : Ren} (R : RI old r) {o n : Nat} (h : renGet r.m o = some n) : preR r n = some o := by
  have hx : ∃ o, renGet r.m o = some n := ⟨o, h⟩
  unfold preR
  rw [dif_pos hx]
  exact congrArg some (R.inj _ _ _ hx.choose_spec h)
noncomputable def renB (β : Bs) (r : Ren) : Bs := fun n => match preR r n with | some o => β o | none => none
def renC (col : Col) (r : Ren) : Col := fun g => match col g with
  | none => none
  | some (o, x) => match renGet r.m o with | some n => some (n, x) | none => some (0, x)
theorem renB_of {β : Bs} {old : List Root} {r : Ren} (R : RI old r) {o n : Nat} (h : renGet r.m o = some n) : renB β r n = β o := by
  unfold renB; rw [preR_of R h]
theorem renC_of {col : Col} {r : Ren} {o n g : Nat} {x : Bool} (h : renGet r.m o = some n) (hc : col g = some (o, x)) : renC col r g = some (n, x) := by
  simp only [renC, hc, h]
theorem renC_none {col : Col} {r : Ren} {g : Nat} : renC col r g = none ↔ col g = none := by
  unfold renC
  cases h : col g with
  | none => simp
  | some p => obtain ⟨o, x⟩ := p; simp only; split <;> simp

section
variable {old : List Root} {r : Ren} {β : Bs} {col : Col} {w : World}
theorem ren_rows (R : RI old r) {n n' : Nat} (h : renGet r.m n = some n') {s : Sl} (hs : rowsOf old n = some s) : rowsOf r.h n' = some s := by
  obtain ⟨r0, r1, h0, h1, hr⟩ := R.rel n n' h
  rw [rowOf_get hs] at h0
  cases h0
  cases hr
  exact rowOf_of h1
theorem CR.len {m : List (Nat × Nat)} {vs ws : List AV} (h : CR m vs ws) : vs.length = ws.length := by
  induction h with
  | nil => rfl
  | cons _ _ ih => simp [ih]
theorem rr_sz (R : RI old r) {n n' : Nat} (h : renGet r.m n = some n') {r0 : Root} (h1 : getN old n = some r0) : ∃ r1, getN r.h n' = some r1 ∧ rsz r1 = rsz r0 ∧ rlen r1 = rlen r0 := by
  obtain ⟨r0', r1, h5, h6, h7⟩ := R.rel _ _ h
  rw [h1] at h5
  cases h5
  refine ⟨r1, h6, ?_, by cases h7 <;> rfl⟩
  cases h7 with
  | dead => rfl
  | rows => rfl
  | box hc _ => simp only [rsz]; exact hc.len.symm
theorem vrel_ren (R : RI old r) {v v' : AV} {x : Value} (hr : RV r.m v v') (hv : vrel old β col w v x) : vrel r.h (renB β r) (renC col r) w v' x := by
  have hz : ∀ g o, zone col g → w.heap[g]? = some o → zone (renC col r) g ∧ w.heap[g]? = some o := fun g o hg hw => ⟨renC_none.2 hg, hw⟩
  cases hr with
  | same h =>
    cases v <;> first | exact hv | (simp only [refless] at h; exact absurd h (by decide)) | skip
    · exact rep_mono hz hv
    · obtain ⟨g, o, cs, e, fz, h1, h2, h3, h4, h5⟩ := hv
      exact ⟨g, o, cs, e, fz, renC_none.2 h1, h2, h3, h4, rep_mono hz h5⟩
  | ref h =>
    obtain ⟨r0, h1, h2, h3⟩ := hv
    obtain ⟨r1, h6, e1, e2⟩ := rr_sz R h h1
    exact ⟨r1, h6, by rw [e1]; exact h2, by rw [renB_of R h, e1, e2]; exact h3⟩
  | win h =>
    obtain ⟨r0, h1, h2, h3, h4⟩ := hv
    obtain ⟨r1, h6, e1, e2⟩ := rr_sz R h h1
    exact ⟨r1, h6, by rw [e1]; exact h2, by rw [e2]; exact h3, by rw [renB_of R h, e1]; exact h4⟩
  | sub h =>
    obtain ⟨s, b, cs, fz, h1, h2, h3⟩ := hv
    exact ⟨s, b, cs, fz, ren_rows R h h1, by rw [renB_of R h]; exact h2, h3⟩
  | ptr h =>
    obtain ⟨r0, b, h1, h2, h3, h4⟩ := hv
    obtain ⟨r0', r1, h5, h6, h7⟩ := R.rel _ _ h
    rw [h1] at h5
    cases h5
    have e1 : rsz r1 = rsz r0 := by
      cases h7 with
      | dead => rfl
      | rows => rfl
      | box hc _ => simp only [rsz]; exact hc.len.symm
    have e2 : rlen r1 = rlen r0 := by cases h7 <;> rfl
    exact ⟨r1, b, h6, by rw [renB_of R h]; exact h2, by rw [e1]; exact h3, by rw [e2]; exact h4⟩
theorem vrels_ren (R : RI old r) {vs ws : List AV} (hr : CR r.m vs ws) : ∀ {xs : List Value}, vrels old β col w vs xs → vrels r.h (renB β r) (renC col r) w ws xs := by
  induction hr with
  | nil => intro xs h; cases xs with | nil => trivial | cons _ _ => exact h
  | cons a _ ih =>
    intro xs h
    cases xs with
    | nil => exact h
    | cons x xs => exact ⟨vrel_ren R a h.1, ih h.2⟩
theorem root_ren (R : RI old r) (hh : ∀ n r, getN old n = some r → rootRel old β col w n r) {n : Nat} {r1 : Root} (h1 : getN r.h n = some r1) :
    rootRel r.h (renB β r) (renC col r) w n r1 := by
  by_cases hx : ∃ o, renGet r.m o = some n
  · obtain ⟨o, ho⟩ := hx
    obtain ⟨r0, r1', h0, h1', hr⟩ := R.rel o n ho
    rw [h1] at h1'
    cases h1'
    have := hh o r0 h0
    cases hr with
    | dead => trivial
    | rows =>
      simp only [rootRel, renB_of (β := β) R ho] at this ⊢
      cases hb : β o with
      | none => simp only [hb] at this ⊢; exact this
      | some b =>
        simp only [hb] at this ⊢
        obtain ⟨cs, fz, h2, h3, h4, h5, h6, h7, h8⟩ := this
        exact ⟨cs, fz, renC_of ho h2, h3, h4, h5, h6, fun i hi => rep_mono (fun g x hg hw => ⟨renC_of ho hg, hw⟩) (h7 i hi), owns_mono (fun g x hg hw => ⟨renC_of ho hg, hw⟩) h8⟩
    | box hc hk =>
      obtain ⟨b, cs, h2, h3, h4, h5, h6, h7⟩ := this
      exact ⟨b, cs, by rw [renB_of R ho]; exact h2, h3, renC_of ho h4, h5, vrels_ren R hc h6, hk⟩
  · rcases R.sur n r1 h1 with h | ⟨e, k, rfl⟩
    · exact absurd h hx
    · have : renB β r n = none := by unfold renB preR; rw [dif_neg hx]
      simp only [rootRel, this]
end

/-! ### What stays -/
theorem renGet_fix : ∀ {n o b : Nat}, renGet (fixM n) o = some b → b = o ∧ o < n
  | 0, _, _, h => by cases h
  | n + 1, o, b, h => by
    simp only [fixM] at h
    rw [renGet_cons] at h
    split at h
    · cases h; rename_i e; exact ⟨e, by omega⟩
    · have := renGet_fix h; exact ⟨this.1, by omega⟩
theorem renGet_fix' : ∀ {n o : Nat}, o < n → renGet (fixM n) o = some o
  | 0, _, h => by omega
  | n + 1, o, h => by
    simp only [fixM]
    rw [renGet_cons]
    split
    · rename_i e; rw [e]
    · exact renGet_fix' (by omega)
theorem fixR_ok : ∀ {n : Nat} {l l' : List Root}, fixR n l = some l' → l'.length = n ∧ ∀ i, i < n → ∃ x, getN l i = some x ∧ getN l' i = some x ∧ ∀ t vs, x = .box t vs → vs.all refless = true
  | 0, _, _, h => by cases h; exact ⟨rfl, fun i hi => by omega⟩
  | n + 1, [], _, h => by cases h
  | n + 1, r :: l, l', h => by
    simp only [fixR] at h
    split at h
    · rename_i l1 h1
      obtain ⟨k1, k2⟩ := fixR_ok h1
      have fin : l' = r :: l1 → (∀ t vs, r = .box t vs → vs.all refless = true) → l'.length = n + 1 ∧ ∀ i, i < n + 1 → ∃ x, getN (r :: l) i = some x ∧ getN l' i = some x ∧ ∀ t vs, x = .box t vs → vs.all refless = true := by
        rintro rfl hb
        refine ⟨by simp [k1], fun i hi => ?_⟩
        cases i with
        | zero => exact ⟨r, rfl, rfl, hb⟩
        | succ i => exact k2 i (by omega)
      split at h
      · obtain ⟨a, b⟩ := cn_some h
        cases b
        exact fin rfl (fun t vs e => by cases e; exact a)
      · cases h
      · rename_i hn _
        cases h
        exact fin rfl (fun t vs e => absurd e (hn t vs))
    · cases h
theorem fixR_hol : ∀ {n : Nat} {l l' : List Root}, fixR n l = some l' → ∀ i e k xs j, i < n → getN l i ≠ some (.hol e k xs j)
  | 0, _, _, _, i, _, _, _, _, hi => by omega
  | n + 1, [], _, h, _, _, _, _, _, _ => by cases h
  | n + 1, r :: l, l', h, i, e, k, xs, j, hi => by
    simp only [fixR] at h
    split at h
    · rename_i l1 h1
      cases i with
      | zero =>
        intro hh
        cases hh
        cases h
      | succ i => exact fixR_hol h1 i e k xs j (by omega)
    · cases h

section
variable {own0 : Own} {w0 : World} {st : St} {a : Act} {w : World} {β : Bs} {col : Col}
theorem fix_ri (S : Sat own0 w0 st a w β col) {np : Nat} {h0 : List Root} (h : fixR np st.heap = some h0) : RI st.heap ⟨fixM np, h0⟩ := by
  obtain ⟨hl, hk⟩ := fixR_ok h
  refine ⟨fun o n hn => ?_, fun o1 o2 n h1 h2 => ?_, fun o n hn => ?_, fun n r1 hn => ?_⟩
  · obtain ⟨rfl, h1⟩ := renGet_fix hn; show n < h0.length; omega
  · exact ((renGet_fix h1).1.symm.trans (renGet_fix h2).1)
  · obtain ⟨rfl, h1⟩ := renGet_fix hn
    obtain ⟨x, h2, h3, h4⟩ := hk _ h1
    refine ⟨x, x, h2, h3, ?_⟩
    cases x with
    | dead => exact .dead
    | rows e k xs => exact .rows
    | hol e k xs j => exact absurd h2 (fixR_hol h _ _ _ _ _ h1)
    | box t vs =>
      have hr := S.heap _ _ h2
      obtain ⟨b, cs, _, _, _, _, _, hc⟩ := hr
      refine .box ?_ hc
      have := h4 t vs rfl
      clear hc h4 h2 h3
      induction vs with
      | nil => exact .nil
      | cons v l ih =>
        simp only [List.all_cons, Bool.and_eq_true] at this
        rename_i hrel
        exact .cons (.same this.1) (by
          have gen : ∀ l : List AV, l.all refless = true → CR (fixM np) l l := by
            intro l
            induction l with
            | nil => intro _; exact .nil
            | cons v l ih => intro h; simp only [List.all_cons, Bool.and_eq_true] at h; exact .cons (.same h.1) (ih h.2)
          exact gen l this.2)
  · refine .inl ⟨n, renGet_fix' ?_⟩
    have := getN_lt hn
    change n < h0.length at this
    omega

def ER (m : List (Nat × Nat)) (h : List Root) (v w : AV) : Prop :=
  w = .undef ∨ RV m v w ∨ (∃ e k b, v = .nil e k ∧ w = .ref b ∧ rowsOf h b = some ⟨e, k, []⟩ ∧ ∀ o, renGet m o ≠ some b) ∨ ∃ f vs ws, v = .clo f vs ∧ w = .clo f ws ∧ CR m vs ws
theorem RI.fresh {old : List Root} {r : Ren} (R : RI old r) (e : Nat) (k : Kind) : RI old ⟨r.m, hpush r.h (.rows e k [])⟩ ∧ RX r ⟨r.m, hpush r.h (.rows e k [])⟩ := by
  have hl : (hpush r.h (.rows e k [])).length = r.h.length + 1 := by simp [hpush]
  refine ⟨⟨fun o n h => by have := R.lt o n h; rw [hl]; omega, R.inj, fun o n h => ?_, fun n r1 h => ?_⟩, ⟨fun _ _ h => h, by rw [hl]; omega, fun n hn => by rw [getN_push, if_pos hn], fun _ _ h => .inl h⟩⟩
  · obtain ⟨r0, r1, h1, h2, h3⟩ := R.rel o n h
    exact ⟨r0, r1, h1, by rw [getN_push, if_pos (R.lt o n h)]; exact h2, h3⟩
  · rw [getN_push] at h
    split at h
    · exact R.sur n r1 h
    · split at h
      · cases h; exact .inr ⟨e, k, rfl⟩
      · cases h
theorem ER.mono {old : List Root} {r r' : Ren} (X : RX r r') {v w : AV} (h : ER r.m r.h v w) : ER r'.m r'.h v w := by
  rcases h with h | h | ⟨e, k, b, h1, h2, h3, h4⟩ | ⟨f, vs, ws, h1, h2, h3⟩
  · exact .inl h
  · exact .inr (.inl (h.mono X.ext))
  case inr.inr.inr => exact .inr (.inr (.inr ⟨f, vs, ws, h1, h2, h3.mono X.ext⟩))
  · have hb := getN_lt (rowOf_get h3)
    refine .inr (.inr (.inl ⟨e, k, b, h1, h2, ?_, fun o ho => ?_⟩))
    · simp only [rowsOf, X.keep b hb]; exact h3
    · rcases X.new o b ho with h | h
      · exact h4 o h
      · omega
theorem renVs_ok {old : List Root} : ∀ {vs ws : List AV} {r r' : Ren}, RI old r → renVs old vs r = some (ws, r') → RI old r' ∧ RX r r' ∧ CR r'.m vs ws
  | [], ws, r, r', R, h => by cases h; exact ⟨R, RX.refl _, .nil⟩
  | v :: l, ws, r, r', R, h => by
    simp only [renVs] at h
    split at h
    · rename_i w1 r1 h1
      split at h
      · rename_i ws1 r2 h2
        cases h
        obtain ⟨a1, a2, a3⟩ := renV_ok R h1
        obtain ⟨b1, b2, b3⟩ := renVs_ok a1 h2
        exact ⟨b1, a2.trans b2, .cons (a3.mono b2.ext) b3⟩
      · cases h
    · cases h
theorem normL_ok {st : St} : ∀ {lv : List (Nat × Bool)} {r r' : Ren} {env : List (Nat × AV)}, RI st.heap r → normL st lv r = some (env, r') → RI st.heap r' ∧ RX r r' ∧ ∀ t, ER r'.m r'.h (lk st.env t) (lk env t)
  | [], r, r', env, R, h => by cases h; exact ⟨R, RX.refl _, fun t => .inl rfl⟩
  | (t, own) :: l, r, r', env, R, h => by
    simp only [normL] at h
    split at h
    · rename_i e k he
      split at h
      · rename_i env1 r1 h1
        cases h
        obtain ⟨R1, X1⟩ := R.fresh e k
        obtain ⟨R2, X2, E2⟩ := normL_ok R1 h1
        refine ⟨R2, X1.trans X2, fun t' => ?_⟩
        rw [lk_cons]
        split
        · rename_i e'; subst e'
          rw [he]
          refine ER.mono (old := st.heap) X2 (.inr (.inr (.inl ⟨e, k, _, rfl, rfl, ?_, fun o ho => ?_⟩)))
          · rw [lenN_eq]; exact rowOf_of (by rw [getN_push, if_neg (by omega), if_pos rfl])
          · have := R.lt o _ ho; rw [lenN_eq] at this; omega
        · exact E2 t'
      · cases h
    · rename_i f vs he
      split at h
      · rename_i ws r1 h1
        split at h
        · rename_i env1 r2 h2
          cases h
          obtain ⟨R1, X1, V1⟩ := renVs_ok R h1
          obtain ⟨R2, X2, E2⟩ := normL_ok R1 h2
          refine ⟨R2, X1.trans X2, fun t' => ?_⟩
          rw [lk_cons]
          split
          · rename_i e'; subst e'
            rw [he]
            exact .inr (.inr (.inr ⟨f, vs, ws, rfl, rfl, V1.mono X2.ext⟩))
          · exact E2 t'
        · cases h
      · cases h
    · split at h
      · rename_i w1 r1 h1
        split at h
        · rename_i env1 r2 h2
          cases h
          obtain ⟨R1, X1, V1⟩ := renV_ok R h1
          obtain ⟨R2, X2, E2⟩ := normL_ok R1 h2
          refine ⟨R2, X1.trans X2, fun t' => ?_⟩
          rw [lk_cons]
          split
          · rename_i e'; subst e'; exact .inr (.inl (V1.mono X2.ext))
          · exact E2 t'
        · cases h
      · cases h

theorem Sat.freshCell (S : Sat own0 w0 st a w β col) (n j : Nat) : ∃ β2, Sat own0 w0 (freshCell n j st) a w β2 col ∧ (∀ m, m < st.heap.length → β2 m = β m) ∧ st.heap.length ≤ (YtlkbmcmglkdciaaE.freshCell n j st).heap.length ∧ (YtlkbmcmglkdciaaE.freshCell n j st).nf = st.nf := by
  unfold YtlkbmcmglkdciaaE.freshCell
  split
  case h_2 => exact ⟨β, S, fun _ _ => rfl, Nat.le_refl _, rfl⟩
  rename_i t vs hb
  split
  case h_2 => exact ⟨β, S, fun _ _ => rfl, Nat.le_refl _, rfl⟩
  rename_i e k hj
  obtain ⟨β1, S1, hn, hk, hβ⟩ := S.pushNilB e k
  have hlt := getN_lt hb
  have hl1 : (hpush st.heap (.rows e k [])).length = st.heap.length + 1 := by simp [hpush]
  have hHH : ∃ H, H = hpush st.heap (.rows e k []) := ⟨_, rfl⟩
  obtain ⟨H, hH⟩ := hHH
  rw [← hH] at S1 hl1 ⊢
  have hb1 : getN H n = some (.box t vs) := by rw [hH, getN_push, if_pos hlt]; exact hb
  have hnew : rowsOf H (lenN st.heap) = some ⟨e, k, []⟩ := by
    rw [lenN_eq]; exact rowOf_of (by rw [hH, getN_push, if_neg (by omega), if_pos rfl])
  have hg : ∀ m, getN (setN H n (.box t (setN vs j (.ref (lenN st.heap))))) m = if m = n then some (.box t (setN vs j (.ref (lenN st.heap)))) else getN H m := fun m => by
    rw [getN_set]
    by_cases hm : m = n
    · rw [if_pos hm, if_pos hm, if_pos (by omega)]
    · rw [if_neg hm, if_neg hm]
  have hlen : (setN vs j (AV.ref (lenN st.heap))).length = vs.length := setN_len _ _ _
  have hro : ∀ m s, rowsOf H m = some s → rowsOf (setN H n (.box t (setN vs j (.ref (lenN st.heap))))) m = some s := fun m s hs => by
    have := rowOf_get hs
    refine rowOf_of ?_
    rw [hg m, if_neg (by rintro rfl; rw [hb1] at this; cases this)]
    exact this
  have weak : ∀ m, Weak H (setN H n (.box t (setN vs j (.ref (lenN st.heap))))) β1 β1 m := fun m => ⟨rfl, fun r hr => by
    by_cases hm : m = n
    · subst hm
      rw [hb1] at hr; cases hr
      exact ⟨.box t (setN vs j (.ref (lenN st.heap))), by rw [hg, if_pos rfl], hlen, rfl⟩
    · exact ⟨r, by rw [hg, if_neg hm]; exact hr, rfl, rfl⟩⟩
  have same : ∀ m, (∃ s, rowsOf H m = some s) → Same H (setN H n (.box t (setN vs j (.ref (lenN st.heap))))) β1 β1 col col w w m := fun m ⟨s, hs⟩ =>
    ⟨by rw [hg, if_neg (by rintro rfl; have := rowOf_get hs; rw [hb1] at this; cases this)], rfl, fun g o _ ho => ⟨rfl, ho⟩⟩
  have hzk : Zk col col w w := ⟨fun g o hg ho => ⟨hg, ho⟩⟩
  have see : ∀ v x, vrel H β1 col w v x → sees (fun _ => True) (fun m => ∃ s, rowsOf H m = some s) v := fun v x hv =>
    sees_of (fun _ _ _ _ => trivial) (fun n s i c y hs _ => ⟨s, hs⟩) v x hv
  have keep : ∀ c v, vrel H β1 col w c v → vrel (setN H n (.box t (setN vs j (.ref (lenN st.heap))))) β1 col w c v := fun c v hv => vrel_keep hzk (fun m _ => weak m) same S1.heap c v (see c v hv) hv
  have keeps : ∀ (l : List AV) (xs : List Value), vrels H β1 col w l xs → vrels (setN H n (.box t (setN vs j (.ref (lenN st.heap))))) β1 col w l xs := by
    intro l
    induction l with
    | nil => intro xs h; cases xs with | nil => trivial | cons _ _ => exact h.elim
    | cons y l ih => intro xs h; cases xs with | nil => exact h.elim | cons x xs => exact ⟨keep _ _ h.1, ih xs h.2⟩
  have put : ∀ (l : List AV) (xs : List Value) (q : Nat), getN l q = some (.nil e k) → vrels H β1 col w l xs → vrels (setN H n (.box t (setN vs j (.ref (lenN st.heap))))) β1 col w (setN l q (.ref (lenN st.heap))) xs := by
    intro l
    induction l with
    | nil => intro xs q hq _; cases hq
    | cons y l ih =>
      intro xs q hq hv
      cases xs with
      | nil => exact hv.elim
      | cons x xs =>
        cases q with
        | zero =>
          cases hq
          refine ⟨ref_mk (s := ⟨e, k, []⟩) (hro _ _ hnew) ?_, keeps l xs hv.2⟩
          have hx : x = .slice none 0 0 := hv.1
          subst hx
          rw [lenN_eq, hn]
          exact ⟨none, 0, rfl, Nat.le_refl _, rfl, rfl⟩
        | succ q => exact ⟨keep _ _ hv.1, ih xs q hq hv.2⟩
  refine ⟨β1, ?_, hβ, by show st.heap.length ≤ (setN H n _).length; rw [setN_len]; omega, rfl⟩
  refine S1.move hzk (p := fun _ => True) (q := fun m => ∃ s, rowsOf H m = some s) (fun m _ => weak m) same (fun t' => .inr ⟨rfl, see _ _ (S1.env t')⟩) (fun m r hr => ?_) S1.fr S1.col ?_ (fun _ _ h => h) (fun m r _ hr => ⟨rfl, ?_⟩)
  · rw [hg m] at hr
    by_cases hm : m = n
    · subst hm
      rw [if_pos rfl] at hr
      cases hr
      obtain ⟨b, cs, h1, h2, h3, h4, h5, h6⟩ := S1.heap m _ hb1
      refine ⟨b, cs, h1, h2, h3, h4, put vs cs.toList j hj h5, ?_⟩
      rw [List.all_eq_true] at h6 ⊢
      intro y hy
      rw [setN_eq] at hy
      rcases List.mem_or_eq_of_mem_set hy with hy | rfl
      · exact h6 y hy
      · rfl
    · rw [if_neg hm] at hr
      refine rootRel_keep hzk (p := fun _ => True) (q := fun m => ∃ s, rowsOf H m = some s) (fun m _ => weak m) same S1.heap ?_ r (fun t' vs' e' => ?_) (S1.heap m r hr)
      · exact ⟨by rw [hg, if_neg hm], rfl, fun g o _ ho => ⟨rfl, ho⟩⟩
      · subst e'
        obtain ⟨b, cs, _, _, _, _, h5, h6⟩ := S1.heap m _ hr
        exact cells_sees (fun _ _ _ _ => trivial) h6 h5
  · have hz := S1.zero
    rw [hg 0, if_neg (by rintro rfl; rw [hb1] at hz; cases hz)]
    exact hz
  · by_cases hm : m = n
    · subst hm
      rw [hb1] at hr; cases hr
      exact ⟨.box t (setN vs j (.ref (lenN st.heap))), by rw [hg, if_pos rfl], ⟨rfl, hlen.symm⟩⟩
    · exact ⟨r, by rw [hg, if_neg hm]; exact hr, Shape.refl r⟩
theorem Sat.freshCells (n : Nat) : ∀ (j : Nat) {st : St} {β : Bs} (S : Sat own0 w0 st a w β col), ∃ β2, Sat own0 w0 (freshCells n j st) a w β2 col ∧ (∀ m, m < st.heap.length → β2 m = β m) ∧ st.heap.length ≤ (YtlkbmcmglkdciaaE.freshCells n j st).heap.length ∧ (YtlkbmcmglkdciaaE.freshCells n j st).nf = st.nf
  | 0, st, β, S => ⟨β, S, fun _ _ => rfl, Nat.le_refl _, rfl⟩
  | j + 1, st, β, S => by
    obtain ⟨β1, S1, h1, h2, h3⟩ := S.freshCell n j
    obtain ⟨β2, S2, h4, h5, h6⟩ := Sat.freshCells n j S1
    exact ⟨β2, S2, fun m hm => by rw [h4 m (by omega), h1 m hm], Nat.le_trans h2 h5, h6.trans h3⟩
theorem Sat.freshL : ∀ (lv : List (Nat × Bool)) {st : St} {β : Bs} (S : Sat own0 w0 st a w β col), ∃ β2, Sat own0 w0 (freshL lv st) a w β2 col ∧ (∀ m, m < st.heap.length → β2 m = β m) ∧ st.heap.length ≤ (YtlkbmcmglkdciaaE.freshL lv st).heap.length ∧ (YtlkbmcmglkdciaaE.freshL lv st).nf = st.nf
  | [], st, β, S => ⟨β, S, fun _ _ => rfl, Nat.le_refl _, rfl⟩
  | (t, own) :: l, st, β, S => by
    unfold YtlkbmcmglkdciaaE.freshL
    split
    · rename_i n i c _
      unfold YtlkbmcmglkdciaaE.freshBox
      split
      · rename_i t' vs _
        obtain ⟨β1, S1, h1, h2, h3⟩ := Sat.freshCells n (lenN vs) S
        obtain ⟨β2, S2, h4, h5, h6⟩ := Sat.freshL l S1
        exact ⟨β2, S2, fun m hm => by rw [h4 m (by omega), h1 m hm], Nat.le_trans h2 h5, h6.trans h3⟩
      · exact Sat.freshL l S
    · exact Sat.freshL l S
/-- What a loop's head keeps. -/
theorem norm_ok {st0 : St} {β0 : Bs} (S0 : Sat own0 w0 st0 a w β0 col) {R : Type} {np : Nat} {lv : List (Nat × Bool)} {κ : St → Option R} {r : R} (hp : 0 < np) (h : normX np lv st0 κ = some r) :
    ∃ st2 β2 col2, κ st2 = some r ∧ Sat own0 w0 st2 a w β2 col2 ∧ (∀ g, col2 g = none ↔ col g = none) ∧ (∀ n, n < np → n < st0.heap.length → β2 n = β0 n) := by
  unfold normX at h
  obtain ⟨β, S, hβ, hlen, _⟩ := S0.freshL lv
  generalize YtlkbmcmglkdciaaE.freshL lv st0 = st at h S hlen
  dsimp only at h
  split at h
  · rename_i h0 hf
    obtain ⟨hnf, h⟩ := cn_some h
    split at h
    · rename_i env rr hn
      have RF := fix_ri S hf
      obtain ⟨R1, X1, E1⟩ := normL_ok RF hn
      have g0 : ∀ n, n < np → renGet rr.m n = some n := fun n hn => X1.ext n n (renGet_fix' hn)
      refine ⟨_, renB β rr, renC col rr, h, ?_, fun g => renC_none, fun n hn hl => (renB_of R1 (g0 n hn)).trans (hβ n hl)⟩
      refine ⟨fun t => ?_, fun n r1 hr => root_ren R1 S.heap hr, S.nt, S.defers, S.fr, fun b hb => ?_, ?_, fun g hg hc => S.zon g hg (renC_none.1 hc), ?_⟩
      · rcases E1 t with e | e | ⟨e, k, b, h1, h2, h3, h4⟩ | ⟨f, vs, ws, h1, h2, h3⟩
        · show vrel rr.h _ _ _ (lk env t) _
          rw [e]; trivial
        · exact vrel_ren R1 e (S.env t)
        case inr.inr.inr =>
          show vrel rr.h _ _ _ (lk env t) _
          rw [h2]
          have hv := S.env t
          rw [h1] at hv
          obtain ⟨cs, h5, h6⟩ := hv
          exact ⟨cs, h5, vrels_ren R1 h3 h6⟩
        · show vrel rr.h _ _ _ (lk env t) _
          rw [h2]
          have hv := S.env t
          rw [h1] at hv
          refine ref_mk h3 ?_
          have : renB β rr b = none := by
            unfold renB preR
            rw [dif_neg]
            rintro ⟨o, ho⟩
            exact h4 o ho
          rw [this]
          exact ⟨none, 0, hv, by simp, rfl, rfl⟩
      · have hc : col b ≠ none := fun e => hb (renC_none.2 e)
        obtain ⟨h1, h2⟩ := S.col b hc
        refine ⟨?_, h2⟩
        rcases h1 with ⟨x, hx⟩ | h1
        · exact .inl ⟨x, renC_of (g0 0 hp) hx⟩
        · exact .inr h1
      · obtain ⟨hl, hk⟩ := fixR_ok hf
        obtain ⟨x, h2, h3, _⟩ := hk 0 hp
        rw [S.zero] at h2
        cases h2
        show getN rr.h 0 = some .dead
        rw [X1.keep 0 (by show 0 < h0.length; omega)]
        exact h3
      · refine S.fixed fun n x hn hx => ?_
        have hn : n < np := Nat.lt_of_lt_of_le hn (Nat.le_of_ble_eq_true hnf)
        obtain ⟨r0, r1, h1, h2, h3⟩ := R1.rel n n (g0 n hn)
        rw [hx] at h1; cases h1
        refine ⟨renB_of R1 (g0 n hn), r1, h2, ?_⟩
        cases h3 with
        | dead => trivial
        | rows => exact Shape.refl _
        | box hc _ => exact ⟨rfl, hc.len⟩
    · cases h
  · cases h
end
end Go.Proofs.YtlkbmcmglkdciaaE
