/- A function, as a whole. No condition. -/
import Derived.Test.YtlkbmcmglkdciaaE30
set_option linter.unusedVariables false
set_option linter.unusedSectionVars false
set_option linter.unusedSimpArgs false
namespace Go.Proofs.YtlkbmcmglkdciaaE
open Go Go.RowKit
open Classical

section
variable {own0 : Own} {w0 : World} {st : St} {a : Act} {w : World} {β : Bs} {col : Col}

theorem ren_mem (S : Sat own0 w0 st a w β col) {np nf : Nat} {h0 : List Root} {rr : Ren} (hp : 0 < np) (hf : fixR np st.heap = some h0) (R1 : RI st.heap rr) (X1 : RX ⟨fixM np, h0⟩ rr)
    (hnf : ∀ n b r, own0.fx n = some (b, r) → n < nf ∧ n < np) : Mem own0 w0 rr.h nf (renB β rr) (renC col rr) w := by
  have g0 : ∀ n, n < np → renGet rr.m n = some n := fun n hn => X1.ext n n (renGet_fix' hn)
  refine ⟨fun n r hr => root_ren R1 S.heap hr, S.fr, fun b hb => ?_, ?_, fun g hg hc => S.zon g hg (renC_none.1 hc), fun n b r h => ?_⟩
  · have hc : col b ≠ none := fun e => hb (renC_none.2 e)
    obtain ⟨h1, h2⟩ := S.col b hc
    refine ⟨?_, h2⟩
    rcases h1 with ⟨x, hx⟩ | h1
    · exact .inl ⟨x, renC_of (g0 0 hp) hx⟩
    · exact .inr h1
  · obtain ⟨hl, hk⟩ := fixR_ok hf
    obtain ⟨x, h2, h3, _⟩ := hk 0 hp
    rw [S.zero] at h2
    cases h2
    rw [X1.keep 0 (by show 0 < h0.length; omega)]
    exact h3
  · obtain ⟨h1, h2⟩ := hnf n b r h
    obtain ⟨_, h4, r', h5, h6⟩ := S.fix n b r h
    obtain ⟨r0, r1, k1, k2, k3⟩ := R1.rel n n (g0 n h2)
    rw [h5] at k1; cases k1
    refine ⟨h1, by rw [renB_of R1 (g0 n h2)]; exact h4, r1, k2, h6.trans ?_⟩
    cases k3 with
    | dead => trivial
    | rows => exact Shape.refl _
    | box hc _ => exact ⟨rfl, hc.len⟩

/-- A value and what it is called at the end. -/
theorem er_ok {old : List Root} {r : Ren} (R : RI old r) {v v' : AV} {x : Value} (hr : ER r.m r.h v v') (hv : vrel old β col w v x) : vrel r.h (renB β r) (renC col r) w v' x := by
  rcases hr with e | e | ⟨e, k, b, rfl, rfl, h3, h4⟩ | ⟨f, vs, ws, rfl, rfl, h3⟩
  · rw [e]; trivial
  · exact vrel_ren R e hv
  case inr.inr.inr =>
    obtain ⟨cs, h5, h6⟩ := hv
    exact ⟨cs, h5, vrels_ren R h3 h6⟩
  · refine ref_mk h3 ?_
    have : renB β r b = none := by
      unfold renB preR
      rw [dif_neg]
      rintro ⟨o, ho⟩
      exact h4 o ho
    rw [this]
    exact ⟨none, 0, hv, by simp, rfl, rfl⟩

inductive ERs (m : List (Nat × Nat)) (h : List Root) : List AV → List AV → Prop where
  | nil : ERs m h [] []
  | cons {v w : AV} {l l' : List AV} (a : ER m h v w) (t : ERs m h l l') : ERs m h (v :: l) (w :: l')
theorem ERs.mono {old : List Root} {r r' : Ren} (X : RX r r') {l l' : List AV} (h : ERs r.m r.h l l') : ERs r'.m r'.h l l' := by
  induction h with
  | nil => exact .nil
  | cons a _ ih => exact .cons (ER.mono (old := old) X a) ih
theorem ers_ok {old : List Root} {r : Ren} (R : RI old r) {l l' : List AV} (hr : ERs r.m r.h l l') : ∀ {xs : List Value}, vrels old β col w l xs → vrels r.h (renB β r) (renC col r) w l' xs := by
  induction hr with
  | nil => intro xs h; cases xs <;> exact h
  | cons a _ ih =>
    intro xs h
    cases xs with
    | nil => exact h
    | cons x xs => exact ⟨er_ok R a h.1, ih h.2⟩

theorem outV_ok {old : List Root} {v w' : AV} {r r' : Ren} (R : RI old r) (h : outV old v r = some (w', r')) :
    RI old r' ∧ RX r r' ∧ r'.h = r.h ++ newC [w'] ∧ ∃ u, (seatC id (lenN r.h) [w']).1 = [u] ∧ (∀ vs, w' ≠ .agg vs) ∧ ER r'.m r'.h v u := by
  cases v <;> simp only [outV] at h <;> first
    | (obtain ⟨h1, h2⟩ := cn_some h; cases h2; first | exact ⟨R, RX.refl _, by simp [newC], _, rfl, (fun _ e => by cases e), .inr (.inl (.same rfl))⟩ | (cases h1; done))
    | skip
  · cases h
    rename_i e k
    obtain ⟨R1, X1⟩ := R.fresh e k
    refine ⟨R1, X1, rfl, _, rfl, (fun _ e => by cases e), .inr (.inr (.inl ⟨e, k, _, rfl, rfl, ?_, fun o ho => ?_⟩))⟩
    · rw [lenN_eq]; exact rowOf_of (by show getN (hpush r.h _) _ = _; rw [getN_push, if_neg (by omega), if_pos rfl])
    · have := R.lt o _ ho; rw [lenN_eq] at this; omega
  · rename_i n
    split at h
    · rename_i s hn hs
      cases h
      obtain ⟨x, y, z⟩ := R.add hn (rowOf_get hs) .rows
      exact ⟨x, y, rfl, _, rfl, (fun _ e => by cases e), .inr (.inl (.ref z))⟩
    · rename_i b s hn hs
      cases h
      exact ⟨R, RX.refl _, by simp [newC], _, rfl, (fun _ e => by cases e), .inr (.inl (.ref hn))⟩
    · cases h
theorem seatC_len (b : Nat) : ∀ l : List AV, (seatC id b l).2 = b + (newC l).length := by
  intro l
  induction l generalizing b with
  | nil => rfl
  | cons v l ih =>
    cases v <;> simp only [seatC, newC, List.length_cons] <;> rw [ih] <;> omega
theorem outVs_ok {old : List Root} : ∀ {l ws : List AV} {r r' : Ren}, RI old r → outVs old l r = some (ws, r') →
    RI old r' ∧ RX r r' ∧ r'.h = r.h ++ newC ws ∧ ERs r'.m r'.h l (seatC id (lenN r.h) ws).1
  | [], ws, r, r', R, h => by cases h; exact ⟨R, RX.refl _, by simp [newC], .nil⟩
  | v :: l, ws, r, r', R, h => by
    simp only [outVs] at h
    split at h
    case h_2 => cases h
    rename_i w1 r1 h1
    split at h
    case h_2 => cases h
    rename_i ws' r2 h2
    cases h
    obtain ⟨a1, a2, a3, u, a4, _, a5⟩ := outV_ok R h1
    obtain ⟨b1, b2, b3, b4⟩ := outVs_ok a1 h2
    have e1 : newC (w1 :: ws') = newC [w1] ++ newC ws' := by cases w1 <;> rfl
    have e2 : (seatC id (lenN r.h) (w1 :: ws')).1 = u :: (seatC id (lenN r1.h) ws').1 := by
      have hl : lenN r1.h = lenN r.h + (newC [w1]).length := by rw [lenN_eq, lenN_eq, a3, List.length_append]
      rw [hl]
      cases w1 <;> simp only [seatC, newC, List.length_cons, List.length_nil, List.cons.injEq, and_true] at a4 ⊢ <;> (first | (rw [← a4]; done) | (rw [← a4]; simp))
    refine ⟨b1, a2.trans b2, by rw [b3, a3, e1, List.append_assoc], ?_⟩
    rw [e2]
    exact .cons (ER.mono (old := old) b2 a5) b4

/-- Of whole results. -/
inductive EA (m : List (Nat × Nat)) (h : List Root) : AV → AV → Prop where
  | one {v w : AV} (a : ER m h v w) : EA m h v w
  | agg {l l' : List AV} (a : ERs m h l l') : EA m h (.agg l) (.agg l')
inductive EAs (m : List (Nat × Nat)) (h : List Root) : List AV → List AV → Prop where
  | nil : EAs m h [] []
  | cons {v w : AV} {l l' : List AV} (a : EA m h v w) (t : EAs m h l l') : EAs m h (v :: l) (w :: l')
theorem eas_ok {old : List Root} {r : Ren} (R : RI old r) {l l' : List AV} (hr : EAs r.m r.h l l') : ∀ {xs : List Value}, vrels old β col w l xs → vrels r.h (renB β r) (renC col r) w l' xs := by
  induction hr with
  | nil => intro xs h; cases xs <;> exact h
  | cons a _ ih =>
    intro xs h
    cases xs with
    | nil => exact h
    | cons x xs =>
      refine ⟨?_, ih h.2⟩
      cases a with
      | one a => exact er_ok R a h.1
      | agg a =>
        obtain ⟨cs, e, hh⟩ := h.1
        exact ⟨cs, e, ers_ok R a hh⟩
theorem EA.mono {old : List Root} {r r' : Ren} (X : RX r r') {l l' : AV} (h : EA r.m r.h l l') : EA r'.m r'.h l l' := by
  cases h with
  | one a => exact .one (ER.mono (old := old) X a)
  | agg a => exact .agg (ERs.mono (old := old) X a)
theorem outAs_ok {old : List Root} : ∀ {l ws : List AV} {r r' : Ren}, RI old r → outAs old l r = some (ws, r') →
    RI old r' ∧ RX r r' ∧ r'.h = r.h ++ newL ws ∧ EAs r'.m r'.h l (seatL id (lenN r.h) ws).1
  | [], ws, r, r', R, h => by cases h; exact ⟨R, RX.refl _, by simp [newL], .nil⟩
  | v :: l, ws, r, r', R, h => by
    by_cases hv : ∃ vs, v = .agg vs
    · obtain ⟨vs, rfl⟩ := hv
      simp only [outAs] at h
      split at h
      case h_2 => cases h
      rename_i w1 r1 h1
      split at h
      case h_2 => cases h
      rename_i ws' r2 h2
      cases h
      obtain ⟨a1, a2, a3, a4⟩ := outVs_ok R h1
      obtain ⟨b1, b2, b3, b4⟩ := outAs_ok a1 h2
      have hl : lenN r1.h = (seatC id (lenN r.h) w1).2 := by rw [seatC_len, lenN_eq, lenN_eq, a3, List.length_append]
      refine ⟨b1, a2.trans b2, by rw [b3, a3]; simp [newL], ?_⟩
      simp only [seatL]
      rw [← hl]
      exact .cons (.agg (ERs.mono (old := old) b2 a4)) b4
    · have h' : (match outV old v r with
        | some (w, r1) => match outAs old l r1 with | some (ws, r2) => some (w :: ws, r2) | none => none
        | none => none) = some (ws, r') := by
        cases v <;> first | exact h | exact absurd ⟨_, rfl⟩ hv
      clear h
      split at h'
      case h_2 => cases h'
      rename_i w1 r1 h1
      split at h'
      case h_2 => cases h'
      rename_i ws' r2 h2
      cases h'
      obtain ⟨a1, a2, a3, u, a4, a6, a5⟩ := outV_ok R h1
      obtain ⟨b1, b2, b3, b4⟩ := outAs_ok a1 h2
      have e1 : newL (w1 :: ws') = newC [w1] ++ newL ws' := by cases w1 <;> first | rfl | exact absurd rfl (a6 _)
      have e2 : (seatL id (lenN r.h) (w1 :: ws')).1 = u :: (seatL id (lenN r1.h) ws').1 := by
        have hl : lenN r1.h = lenN r.h + (newC [w1]).length := by rw [lenN_eq, lenN_eq, a3, List.length_append]
        rw [hl]
        cases w1 <;> first | exact absurd rfl (a6 _) | (simp only [seatL, seatC, newC, List.length_cons, List.length_nil, List.cons.injEq, and_true] at a4 ⊢; (first | (rw [← a4]; done) | (rw [← a4]; simp)))
      refine ⟨b1, a2.trans b2, by rw [b3, a3, e1, List.append_assoc], ?_⟩
      rw [e2]
      exact .cons (.one (ER.mono (old := old) b2 a5)) b4
end
end Go.Proofs.YtlkbmcmglkdciaaE
