/- The arguments of a call, as the callee finds them. No condition. -/
import Derived.Test.YtlkbmcmglkdciaaE25
set_option linter.unusedVariables false
set_option linter.unusedSectionVars false
set_option linter.unusedSimpArgs false
namespace Go.Proofs.YtlkbmcmglkdciaaE
open Go Go.RowKit

/-- What was handed over and stays. -/
inductive Stay (P : Program) (h : List Root) (n : Nat) : Root → List Nat → Prop where
  | rows {e : Nat} {k : Kind} {xs : List k.den} (h1 : getN h n = some (.rows e k xs)) : Stay P h n (.rows e k xs) []
  | box {t : Nat} {vs ws : List AV} (h1 : getN h n = some (.box t vs)) (h2 : toVals P h vs = some ws) : Stay P h n (.box t ws) (looksL vs)
inductive Give (h : List Root) : Option Nat → Root → Prop where
  | some {n e : Nat} {k : Kind} {xs : List k.den} (h1 : getN h n = some (.rows e k xs)) : Give h (some n) (.rows e k xs)
  | nil {e : Nat} {k : Kind} : Give h none (.rows e k [])

section
variable {own0 : Own} {w0 : World} {st : St} {a : Act} {w : World} {β : Bs} {col : Col} {P : Program}

theorem tsOf_cons {h : List Root} {m : Mode} {ms : List Mode} {tys : List Nat} {as ts : List AV} (hh : tsOf P h (m :: ms) tys as = some ts) :
    ∃ t tys' v l y r, tys = t :: tys' ∧ as = v :: l ∧ ts = y :: r ∧ argOf P h m t v = some y ∧ tsOf P h ms tys' l = some r := by
  cases tys with
  | nil => cases as <;> cases hh
  | cons t tys' =>
    cases as with
    | nil => cases hh
    | cons v l =>
      simp only [tsOf] at hh
      split at hh
      · rename_i y r h1 h2
        cases hh
        exact ⟨_, _, _, _, _, _, rfl, rfl, rfl, h1, h2⟩
      · cases hh

/-- One argument: what it is, mode by mode. -/
theorem arg_mut {h : List Root} {t : Nat} {v y : AV} (hh : argOf P h .chg t v = some y) : ∃ n e k xs, v = .ref n ∧ y = .row e k xs ∧ getN h n = some (.rows e k xs) := by
  cases v <;> simp only [argOf] at hh <;> first | (cases hh; done) | skip
  split at hh
  · rename_i e k xs h1
    cases hh
    exact ⟨_, _, _, _, rfl, rfl, h1⟩
  · cases hh
theorem arg_give {h : List Root} {t : Nat} {v y : AV} (hh : argOf P h .give t v = some y) :
    (∃ n e k xs, v = .ref n ∧ y = .row e k xs ∧ getN h n = some (.rows e k xs)) ∨ ∃ e k, v = .nil e k ∧ y = .row e k [] := by
  cases v <;> simp only [argOf] at hh <;> first | (cases hh; done) | skip
  · cases hh; exact .inr ⟨_, _, rfl, rfl⟩
  · split at hh
    · rename_i e k xs h1
      cases hh
      exact .inl ⟨_, _, _, _, rfl, rfl, h1⟩
    · cases hh
theorem arg_pbox {h : List Root} {t t0 : Nat} {v y : AV} (hh : argOf P h (.pbox t0) t v = some y) :
    ∃ n vs ws, v = .ptr n 0 0 ∧ y = .agg ws ∧ getN h n = some (.box t0 vs) ∧ toVals P h vs = some ws := by
  cases v with
  | ptr n i c =>
    cases i with
    | zero =>
      cases c with
      | zero =>
        simp only [argOf] at hh
        split at hh
        · rename_i t' vs h1
          split at hh
          · rename_i ws h2
            obtain ⟨h3, h4⟩ := cn_some hh
            cases h4
            have := Nat.eq_of_beq_eq_true h3
            subst this
            exact ⟨_, _, _, rfl, rfl, h1, h2⟩
          · cases hh
        · cases hh
      | succ _ => cases hh
    | succ _ => cases hh
  | _ => cases hh

theorem shapes {h : List Root} : ∀ {ms : List Mode} {tys : List Nat} {as ts : List AV}, tsOf P h ms tys as = some ts →
    (∀ (i : Nat) (r : Root), (stayR ms ts)[i]? = some r → ∃ (n : Nat) (l : List Nat), (nsOf ms as)[i]? = some n ∧ Stay P h n r l ∧ ∀ m ∈ l, m ∈ looksOf h ms as) ∧ (stayR ms ts).length = (nsOf ms as).length ∧
    (∀ (i : Nat) (r : Root), (giveR ms ts)[i]? = some r → ∃ o : Option Nat, (gsOf ms as)[i]? = some o ∧ Give h o r) ∧ (giveR ms ts).length = (gsOf ms as).length
  | [], tys, as, ts, hh => by
    simp only [stayR, giveR, nsOf, gsOf]
    exact ⟨fun i r h => by simp at h, rfl, fun i r h => by simp at h, rfl⟩
  | m :: ms, tys, as, ts, hh => by
    obtain ⟨t, tys', v, l, y, r, rfl, rfl, rfl, h1, h2⟩ := tsOf_cons hh
    obtain ⟨i1, i2, i3, i4⟩ := shapes h2
    have i1' : ∀ i r', (stayR ms r)[i]? = some r' → ∃ n l', (nsOf ms l)[i]? = some n ∧ Stay P h n r' l' ∧ ∀ m' ∈ l', m' ∈ looksOf h (m :: ms) (v :: l) := fun i r' hr => by
      obtain ⟨n, l', a1, a2, a3⟩ := i1 i r' hr
      exact ⟨n, l', a1, a2, fun m' hm => by simp only [looksOf, List.mem_append]; exact .inr (a3 m' hm)⟩
    cases m with
    | val => 
      simp only [stayR, giveR, nsOf, gsOf]
      exact ⟨i1', i2, i3, i4⟩
    | chg =>
      obtain ⟨n, e, k, xs, rfl, rfl, h3⟩ := arg_mut h1
      simp only [stayR, giveR, nsOf, gsOf]
      refine ⟨fun i r' hr => ?_, by simp [i2], i3, i4⟩
      cases i with
      | zero => simp at hr; subst hr; exact ⟨n, [], rfl, .rows h3, fun _ h => by cases h⟩
      | succ i => simp at hr; simpa using i1' i r' hr
    | give =>
      rcases arg_give h1 with ⟨n, e, k, xs, rfl, rfl, h3⟩ | ⟨e, k, rfl, rfl⟩
      · simp only [stayR, giveR, nsOf, gsOf]
        refine ⟨i1', i2, fun i r' hr => ?_, by simp [i4]⟩
        cases i with
        | zero => simp at hr; subst hr; exact ⟨_, rfl, .some h3⟩
        | succ i => simp at hr; simpa using i3 i r' hr
      · simp only [stayR, giveR, nsOf, gsOf]
        refine ⟨i1', i2, fun i r' hr => ?_, by simp [i4]⟩
        cases i with
        | zero => simp at hr; subst hr; exact ⟨_, rfl, .nil⟩
        | succ i => simp at hr; simpa using i3 i r' hr
    | pbox t0 =>
      obtain ⟨n, vs, ws, rfl, rfl, h3, h4⟩ := arg_pbox h1
      simp only [stayR, giveR, nsOf, gsOf]
      refine ⟨fun i r' hr => ?_, by simp [i2], i3, i4⟩
      cases i with
      | zero => simp at hr; subst hr; exact ⟨n, _, rfl, .box h3 h4, fun m' hm => by simp only [looksOf, looksA, h3, List.mem_append]; exact .inl hm⟩
      | succ i => simp at hr; simpa using i1' i r' hr

/-- The parameters' values go with what the callee takes them for. -/
theorem args_ok (S : Sat own0 w0 st a w β col) {H : List Root} {β0 : Bs} {col0 : Col} (hz : ∀ g, col g = none → col0 g = none) :
    ∀ {ms : List Mode} {tys : List Nat} {as ts : List AV} {vs : List Value} {s g : Nat}, tsOf P st.heap ms tys as = some ts → vrels st.heap β col w as vs →
      (∀ n ∈ looksOf st.heap ms as, ∀ b y, col b = some (n, y) → col0 b = none) →
      (∀ (i : Nat) (r : Root), (stayR ms ts)[i]? = some r → getN H (s + i) = some r) → (∀ (i n : Nat), (nsOf ms as)[i]? = some n → β0 (s + i) = β n) →
      (∀ (i : Nat) (r : Root), (giveR ms ts)[i]? = some r → getN H (g + i) = some r) → (∀ (i : Nat) (o : Option Nat), (gsOf ms as)[i]? = some o → β0 (g + i) = o.bind β) →
      vrels H β0 col0 w (enterV ms ts s g) vs
  | [], tys, as, ts, vs, s, g, hh, hv, hl, h1, h2, h3, h4 => by
    cases as with
    | nil => cases tys <;> first | (cases hh; done) | (cases vs with | nil => trivial | cons _ _ => exact hv.elim)
    | cons _ _ => cases tys <;> cases hh
  | m :: ms, tys, as, ts, vs, s, g, hh, hv, hl, h1, h2, h3, h4 => by
    obtain ⟨t, tys', v, l, y, r, rfl, rfl, rfl, k1, k2⟩ := tsOf_cons hh
    cases vs with
    | nil => exact hv.elim
    | cons x xs =>
    have hl' : ∀ n ∈ looksOf st.heap ms l, ∀ b y, col b = some (n, y) → col0 b = none := fun n hn => hl n (by simp only [looksOf, List.mem_append]; exact .inr hn)
    cases m with
    | val =>
      simp only [stayR, giveR, nsOf, gsOf] at h1 h2 h3 h4
      simp only [enterV]
      refine ⟨?_, args_ok S hz k2 hv.2 hl' h1 h2 h3 h4⟩
      have hlv : ∀ n ∈ looksA st.heap .val v, ∀ b y, col b = some (n, y) → col0 b = none := fun n hn => hl n (by simp only [looksOf, List.mem_append]; exact .inl hn)
      have hv1 := hv.1
      cases v <;> simp only [argOf] at k1 <;> first | exact (toVal_ok S hv1 k1 hz hlv).1 | skip
      split at k1
      · rename_i ws hws
        cases k1
        obtain ⟨cs, rfl, hcs⟩ := hv1
        exact ⟨cs, rfl, (toVals_ok S hz hcs hws hlv).1⟩
      · cases k1
    | chg =>
      obtain ⟨n, e, k, ys, rfl, rfl, k3⟩ := arg_mut k1
      simp only [stayR, giveR, nsOf, gsOf] at h1 h2 h3 h4
      simp only [enterV]
      refine ⟨?_, args_ok S hz k2 hv.2 hl' (fun i r hr => by have := h1 (i + 1) r (by simpa using hr); rwa [show s + (i + 1) = s + 1 + i by omega] at this)
        (fun i n' hn => by have := h2 (i + 1) n' (by simpa using hn); rwa [show s + (i + 1) = s + 1 + i by omega] at this) h3 h4⟩
      have hx := ref_row hv.1 (rowOf_of k3)
      have e1 := h1 0 _ rfl
      have e2 := h2 0 _ rfl
      exact ref_mk (rowOf_of e1) (by rw [show β0 s = β n from e2]; exact hx)
    | give =>
      rcases arg_give k1 with ⟨n, e, k, ys, rfl, rfl, k3⟩ | ⟨e, k, rfl, rfl⟩
      · simp only [stayR, giveR, nsOf, gsOf] at h1 h2 h3 h4
        simp only [enterV]
        refine ⟨?_, args_ok S hz k2 hv.2 hl' h1 h2 (fun i r hr => by have := h3 (i + 1) r (by simpa using hr); rwa [show g + (i + 1) = g + 1 + i by omega] at this)
          (fun i n' hn => by have := h4 (i + 1) n' (by simpa using hn); rwa [show g + (i + 1) = g + 1 + i by omega] at this)⟩
        have hx := ref_row hv.1 (rowOf_of k3)
        have e1 := h3 0 _ rfl
        have e2 := h4 0 _ rfl
        exact ref_mk (rowOf_of e1) (by rw [show β0 g = β n from e2]; exact hx)
      · simp only [stayR, giveR, nsOf, gsOf] at h1 h2 h3 h4
        simp only [enterV]
        refine ⟨?_, args_ok S hz k2 hv.2 hl' h1 h2 (fun i r hr => by have := h3 (i + 1) r (by simpa using hr); rwa [show g + (i + 1) = g + 1 + i by omega] at this)
          (fun i n' hn => by have := h4 (i + 1) n' (by simpa using hn); rwa [show g + (i + 1) = g + 1 + i by omega] at this)⟩
        have e1 := h3 0 _ rfl
        have e2 := h4 0 _ rfl
        obtain rfl : x = _ := hv.1
        exact ref_mk (s := ⟨e, k, []⟩) (rowOf_of e1) ⟨none, 0, rfl, Nat.le_refl _, by rw [show β0 g = none from e2]; exact ⟨rfl, rfl⟩⟩
    | pbox t0 =>
      obtain ⟨n, us, ws, rfl, rfl, k3, k4⟩ := arg_pbox k1
      simp only [stayR, giveR, nsOf, gsOf] at h1 h2 h3 h4
      simp only [enterV]
      refine ⟨?_, args_ok S hz k2 hv.2 hl' (fun i r hr => by have := h1 (i + 1) r (by simpa using hr); rwa [show s + (i + 1) = s + 1 + i by omega] at this)
        (fun i n' hn => by have := h2 (i + 1) n' (by simpa using hn); rwa [show s + (i + 1) = s + 1 + i by omega] at this) h3 h4⟩
      obtain ⟨r0, b, p1, p2, p3, p4⟩ := hv.1
      have e1 := h1 0 _ rfl
      have e2 := h2 0 _ rfl
      exact ⟨_, b, e1, by rw [show β0 s = β n from e2]; exact p2, by rw [p3]; simp, by simp [rlen]⟩
end
end Go.Proofs.YtlkbmcmglkdciaaE
