/- Operations that leave the world alone: addresses, slices, lengths. No condition. -/
import Derived.Test.YtlkbmcmglkdciaaE3
set_option linter.unusedVariables false
set_option linter.unusedSectionVars false
set_option linter.unusedSimpArgs false
namespace Go.Proofs.YtlkbmcmglkdciaaE
open Go Go.RowKit

theorem sz_pos : ∀ k : Kind, 0 < k.sz
  | .int _ => by simp [Kind.sz]
  | .bool => by simp [Kind.sz]
  | .str => by simp [Kind.sz]
  | .sl _ _ => by simp [Kind.sz]
  | .pair a b => by have := sz_pos a; simp [Kind.sz]; omega
theorem slT_ok {P : Program} {t e : Nat} {k : Kind} (h : slT P t = some (e, k)) : P.underlying t = some (.slice e) ∧ P.cellsOf e = k.sz := by
  unfold slT at h
  split at h
  · rename_i e' hu
    split at h
    · obtain ⟨h1, h2⟩ := cn_some h
      cases h2
      exact ⟨hu, Nat.eq_of_beq_eq_true h1⟩
    · cases h
  · cases h
theorem run_und {P : Program} {t : Nat} {d : TypeDesc} (h : P.underlying t = some d) (w : World) {α : Type} (f : TypeDesc → Sem α) :
    (underlying t >>= f).run P w = (f d).run P w := by
  simp [underlying, program, bind, Sem.bind, Sem.run, h, pure]
theorem cells_info {P : Program} {e : Nat} (h : 0 < P.cellsOf e) : ∃ i, P.info? e = some i ∧ i.size = P.cellsOf e := by
  unfold Program.cellsOf at h ⊢
  cases hi : P.info? e with
  | none => rw [hi] at h; simp at h
  | some i => exact ⟨i, rfl, by simp⟩
theorem run_size {P : Program} {e : Nat} (h : 0 < P.cellsOf e) (w : World) {α : Type} (f : Nat → Sem α) :
    (sizeOf e >>= f).run P w = (f (P.cellsOf e)).run P w := by
  obtain ⟨i, hi, hs⟩ := cells_info h
  simp [sizeOf, typeInfo, program, bind, Sem.bind, Sem.run, hi, pure, hs]
theorem add_none (g o n : Nat) : (⟨g, o, none⟩ : Addr).add n = ⟨g, o + n, none⟩ := by
  unfold Addr.add; split <;> simp_all
theorem inb_ok {i : Int} {n : Nat} (h : inb i n = true) : 0 ≤ i ∧ i < n ∧ i.toNat < n := by
  simp [inb] at h; omega

section
variable {own0 : Own} {w0 : World} {st : St} {a : Act} {w : World} {β : Bs} {col : Col} {P : Program}

theorem rowRel (S : Sat own0 w0 st a w β col) {n : Nat} {s : Sl} (h : rowsOf st.heap n = some s) : rootRel st.heap β col w n (.rows s.e s.k s.xs) :=
  S.heap n _ (rowOf_get h)

theorem run_index {t d : Nat} (hu : P.underlying t = some (.slice d)) (hs : 0 < P.cellsOf d) {A : Addr} {n c : Nat} {k : IntKind} {i : Int} (h0 : 0 ≤ i) (h1 : i < n) :
    (Instr.indexAt t (.slice (some A) n c) (.int k i)).run P w = .ok (.pointer (some (A.add (i.toNat * P.cellsOf d)))) w := by
  unfold Instr.indexAt
  simp only [asIntOf, pure_bind]
  rw [run_und hu]
  simp only [pure_bind]
  show (underlying t >>= _).run P w = _
  rw [run_und hu]
  simp only [pure_bind]
  rw [if_pos ⟨h0, h1⟩, run_size hs]
  rfl

theorem addr_shift {g o i sz d : Nat} : (⟨g, o + i * sz + d, none⟩ : Addr) = ⟨g, o + (i * sz + d), none⟩ := by rw [Nat.add_assoc]

theorem blt_true {a b : Nat} (h : a < b) : Nat.blt a b = true := Nat.ble_eq_true_of_le h
theorem blt_false {a b : Nat} (h : b ≤ a) : Nat.blt a b = false := by
  cases hb : Nat.blt a b with
  | true => have : a < b := Nat.le_of_ble_eq_true hb; omega
  | false => rfl
theorem subAt_none : ∀ (k : Kind) (x : k.den) (c : Nat), k.sz ≤ c → subAt k x c = none := by
  intro k
  induction k with
  | int _ => intro x c _; simp [subAt]
  | bool => intro x c _; simp [subAt]
  | str => intro x c _; simp [subAt]
  | pair p q ihp ihq =>
    intro x c hc
    simp only [Kind.sz] at hc
    simp only [subAt, cn]
    rw [blt_false (by omega)]
    exact ihq _ _ (by omega)
  | sl e k _ =>
    intro x c hc
    simp only [Kind.sz] at hc
    cases c with
    | zero => omega
    | succ c => simp [subAt]
theorem subAt_flat : ∀ (k : Kind) (x : k.den) (c : Nat), flat k = true → subAt k x c = none := by
  intro k
  induction k with
  | int _ => intro x c _; simp [subAt]
  | bool => intro x c _; simp [subAt]
  | str => intro x c _; simp [subAt]
  | pair p q ihp ihq =>
    intro x c hf
    simp only [flat, Bool.and_eq_true] at hf
    simp only [subAt, cn]
    cases Nat.blt c p.sz with
    | true => exact ihp _ _ hf.1
    | false => exact ihq _ _ hf.2
  | sl e k _ => intro x c hf; simp [flat] at hf

theorem sub_read (S : Sat own0 w0 st a w β col) {n j c : Nat} {v : Value} {s : Sl} (hv : vrel st.heap β col w (.sub n j c) v) (hr : readSl st.heap (.sub n j c) = some s) :
    ∃ A q, v = .slice A s.xs.length q ∧ s.xs.length ≤ q ∧ (s.xs = [] ∨ ∃ g o cs e2 fz, A = some ⟨g, o, none⟩ ∧ inner col n g ∧ w.heap[g]? = some (.cells cs e2 fz) ∧
      ∀ i, ∀ h : i < s.xs.length, rep w (inner col n) s.k s.xs[i] (seg cs (o + i * s.k.sz) s.k.sz)) := by
  obtain ⟨s0, b, cs, fz, h1, h2, h3, h4, h5, _⟩ := hv
  have hR := rowRel S h1
  simp only [readSl] at hr
  rw [rowOf_get h1] at hr
  simp only at hr
  unfold rootRel at hR
  rw [h2] at hR
  obtain ⟨cs', fz', hc, hw, _, _, hsz, hel, _⟩ := hR
  rw [hw] at h4
  cases h4
  have he := hel j h3
  have hg : getAt s0.k.dflt s0.xs j = s0.xs[j] := by simp [getAt, h3]
  rw [hg] at hr
  generalize s0.xs[j] = x at hr he
  have key : ∀ (k : Kind) (x : k.den) (vs : List Value) (c : Nat) (v : Value) , rep w (inner col n) k x vs → vs[c]? = some v → 
      (match subAt k x c with | some (.row e k' ys) => some (⟨e, k', ys⟩ : Sl) | _ => none) = some s → rep w (inner col n) (.sl s.e s.k) s.xs [v] := by
    intro k
    induction k with
    | int _ => intro x vs c v _ _ h; simp [subAt] at h
    | bool => intro x vs c v _ _ h; simp [subAt] at h
    | str => intro x vs c v _ _ h; simp [subAt] at h
    | pair p q ihp ihq =>
      intro x vs c v hrep hv h
      obtain ⟨vp, vq, rfl, hp, hq⟩ := hrep
      have lp := rep_len hp
      simp only [subAt, cn] at h
      cases hb : Nat.blt c p.sz with
      | true =>
        rw [hb] at h
        have : c < p.sz := Nat.le_of_ble_eq_true hb
        exact ihp _ _ c v hp (by rw [← hv, List.getElem?_append_left (by omega)]) h
      | false =>
        rw [hb] at h
        have : ¬ c < p.sz := fun hlt => by rw [show Nat.blt c p.sz = true from Nat.ble_eq_true_of_le hlt] at hb; cases hb
        exact ihq _ _ (c - p.sz) v hq (by rw [← hv, List.getElem?_append_right (by omega), lp]) h
    | sl e k _ =>
      intro x vs c v hrep hv h
      cases c with
      | zero =>
        simp only [subAt, Option.some.injEq] at h
        subst h
        have := rep_len hrep
        obtain ⟨A, q, rfl, hh⟩ := hrep
        simp at hv
        subst hv
        exact ⟨A, q, rfl, hh⟩
      | succ c => simp [subAt] at h
  have hc' : c < s0.k.sz := by
    rcases Nat.lt_or_ge c s0.k.sz with hlt | hge
    · exact hlt
    · exfalso
      rw [subAt_none _ _ _ hge] at hr
      cases hr
  obtain ⟨A, q, h7, h8, h9⟩ := key s0.k x _ c v he (by rw [seg_get hc']; exact h5) hr
  cases h7
  exact ⟨A, q, rfl, h8, h9⟩

theorem swin_read (S : Sat own0 w0 st a w β col) {n i c lo len : Nat} {v : Value} {s : Sl} (hv : vrel st.heap β col w (.swin n i c lo len) v) (hr : readSl st.heap (.swin n i c lo len) = some s) :
    ∃ A q, v = .slice A s.xs.length q ∧ s.xs.length ≤ q ∧ (s.xs = [] ∨ ∃ g o cs e2 fz, A = some ⟨g, o, none⟩ ∧ inner col n g ∧ w.heap[g]? = some (.cells cs e2 fz) ∧ ∀ i, ∀ h : i < s.xs.length, rep w (inner col n) s.k s.xs[i] (seg cs (o + i * s.k.sz) s.k.sz)) := by
  obtain ⟨s0, b, cs, fz, e', k', ys, A, q, A2, k1, k2, k3, k4, k5, k6, k7, k8, rfl, k9⟩ := hv
  simp only [readSl] at hr
  rw [rowOf_get k1] at hr
  simp only [k5, Option.some.injEq] at hr
  subst hr
  have hlen : ((ys.drop lo).take len).length = len := by simp; omega
  have hsub : vrel st.heap β col w (.sub n i c) (.slice A ys.length q) := ⟨s0, b, cs, fz, k1, k2, k3, k4, k8, _, k5⟩
  have hrd : readSl st.heap (.sub n i c) = some ⟨e', k', ys⟩ := by simp only [readSl, rowOf_get k1, k5]
  obtain ⟨A', q', e1, hq, hh⟩ := sub_read S hsub hrd
  cases e1
  refine ⟨A2, q - lo, by simp only [hlen], by simp only [hlen]; omega, ?_⟩
  by_cases h0 : len = 0
  · left; subst h0; simp
  · right
    rcases hh with he | ⟨g, o, cs', e2, fz', rfl, hg, hw, hel⟩
    · simp only at he; rw [he] at k6; simp at k6; omega
    · have hA2 := k9.resolve_left (by omega)
      subst hA2
      refine ⟨g, o + lo * k'.sz, cs', e2, fz', by show some (Addr.add ⟨g, o, none⟩ _) = _; rw [add_none], hg, hw, fun j hj => ?_⟩
      simp only [hlen] at hj
      have := hel (lo + j) (by simp only; omega)
      have e : ((ys.drop lo).take len)[j]'(by simp only [hlen]; exact hj) = ys[lo + j] := by simp
      simp only [e]
      rw [show o + lo * k'.sz + j * k'.sz = o + (lo + j) * k'.sz by rw [Nat.add_mul]; omega]
      exact this
theorem stIndex_ok (S : Sat own0 w0 st a w β col) {t d sz : Nat} {x : AV} {vx : Value} {kk : IntKind} {i : Int} {v : AV} {st' : St}
    (hu : P.underlying t = some (.slice d)) (hs : P.cellsOf d = sz) (h0 : 0 < sz) (hx : vrel st.heap β col w x vx) (h : stIndex sz x i st = some (true, v, st')) :
    st' = st ∧ ∃ r, (∀ w2 : World, Below w.heap.size w w2 → (Instr.indexAt t vx (.int kk i)).run P w2 = .ok r w2) ∧ vrel st.heap β col w v r := by
  subst hs
  cases x with
  | ref n =>
    simp only [stIndex] at h
    split at h
    · rename_i s hs
      obtain ⟨h1, h2⟩ := cn_some h
      have h1 := Nat.eq_of_beq_eq_true h1
      simp only [Option.some.injEq, Prod.mk.injEq] at h2
      obtain ⟨h3, rfl, rfl⟩ := h2
      obtain ⟨i0, i1, i2⟩ := inb_ok h3
      obtain ⟨A, c, rfl, hc, hb⟩ := ref_row hx hs
      have hR := rowRel S hs
      cases hβ : β n with
      | none => unfold rootRel at hR; rw [hβ] at hR; simp only at hR; rw [hR] at i2; simp at i2
      | some b =>
        rw [hβ] at hb
        obtain ⟨hb1, hb2⟩ := hb
        have hA : A = some ⟨b.g, b.o + 0 * s.k.sz, none⟩ := hb1.resolve_left (by omega)
        subst hA
        refine ⟨rfl, _, fun w2 _ => run_index hu h0 i0 i1, ?_⟩
        refine ⟨.rows s.e s.k s.xs, b, rowOf_get hs, hβ, ?_, i2⟩
        rw [add_none, ← h1]; simp [rsz]
    · split at h
      · rename_i e k xs j hr
        obtain ⟨h1, h2⟩ := cn_some h
        have h1 := Nat.eq_of_beq_eq_true h1
        simp only [Option.some.injEq, Prod.mk.injEq] at h2
        obtain ⟨h3, rfl, rfl⟩ := h2
        obtain ⟨i0, i1, i2⟩ := inb_ok h3
        obtain ⟨r, hr', _, A, c, rfl, hc, hb⟩ := hx
        rw [hr] at hr'; cases hr'
        obtain ⟨b, cs, fz, hβ, _⟩ := S.heap n _ hr
        rw [hβ] at hb
        obtain ⟨hb1, hb2⟩ := hb
        simp only [rsz, rlen] at hb1 hc
        have hA : A = some ⟨b.g, b.o + 0 * k.sz, none⟩ := hb1.resolve_left (by omega)
        subst hA
        refine ⟨rfl, _, fun w2 _ => run_index hu h0 i0 i1, ?_⟩
        refine ⟨.hol e k xs j, b, hr, hβ, ?_, i2⟩
        rw [add_none, ← h1]; simp [rsz]
      · cases h
  | win n lo len =>
    simp only [stIndex] at h
    split at h
    · rename_i s hs
      obtain ⟨h1, h2⟩ := cn_some h
      have h1 := Nat.eq_of_beq_eq_true h1
      simp only [Option.some.injEq, Prod.mk.injEq] at h2
      obtain ⟨h3, rfl, rfl⟩ := h2
      obtain ⟨i0, i1, i2⟩ := inb_ok h3
      obtain ⟨hl, A, c, rfl, hc, hb⟩ := win_row hx hs
      have hR := rowRel S hs
      cases hβ : β n with
      | none => unfold rootRel at hR; rw [hβ] at hR; simp only at hR; rw [hR] at hl; simp at hl; omega
      | some b =>
        rw [hβ] at hb
        obtain ⟨hb1, hb2⟩ := hb
        have hA : A = some ⟨b.g, b.o + lo * s.k.sz, none⟩ := hb1.resolve_left (by omega)
        subst hA
        refine ⟨rfl, _, fun w2 _ => run_index hu h0 i0 i1, ?_⟩
        refine ⟨.rows s.e s.k s.xs, b, rowOf_get hs, hβ, ?_, by simp only [rlen]; omega⟩
        rw [add_none, ← h1]; simp [rsz, Nat.add_mul, Nat.add_assoc]
    · cases h
  | row e k xs =>
    simp only [stIndex] at h
    obtain ⟨h1, h2⟩ := cn_some h
    have h1 := Nat.eq_of_beq_eq_true h1
    simp only [Option.some.injEq, Prod.mk.injEq] at h2
    obtain ⟨h3, rfl, rfl⟩ := h2
    obtain ⟨i0, i1, i2⟩ := inb_ok h3
    obtain ⟨A, c, hA, hc, hx⟩ := hx
    cases hA
    rcases hx with rfl | ⟨g, o, cs, e2, fz, rfl, hg, hw, hel⟩
    · simp at i2
    · refine ⟨rfl, _, fun w2 _ => run_index hu h0 i0 i1, ?_⟩
      refine ⟨g, o + i.toNat * k.sz, cs, e2, fz, hg, hw, i2, by rw [add_none, ← h1]; simp, ?_⟩
      have := hel i.toNat i2
      rw [show getAt k.dflt xs i.toNat = xs[i.toNat] by simp [getAt, i2]]
      exact this
  | sub n j c =>
    simp only [stIndex] at h
    split at h
    · rename_i s hs
      obtain ⟨h1, h2⟩ := cn_some h
      have h1 := Nat.eq_of_beq_eq_true h1
      simp only [Option.some.injEq, Prod.mk.injEq] at h2
      obtain ⟨h3, rfl, rfl⟩ := h2
      obtain ⟨i0, i1, i2⟩ := inb_ok h3
      obtain ⟨A, q, rfl, hq, hh⟩ := sub_read S hx hs
      obtain ⟨s0, b, cs, fz, k1, k2, k3, k4, k5, _⟩ := hx
      rcases hh with he | ⟨g, o, cs', e2, fz', rfl, hg, hw, hel⟩
      · rw [he] at i2; simp at i2
      · refine ⟨rfl, _, fun w2 _ => run_index hu h0 i0 i1, ?_⟩
        have hsub : subAt s0.k (getAt s0.k.dflt s0.xs j) c = some (.row s.e s.k s.xs) := by
          simp only [readSl] at hs
          rw [rowOf_get k1] at hs
          simp only at hs
          split at hs
          · rename_i e' k' ys hsub; cases hs; exact hsub
          · cases hs
        exact ⟨s0, b, cs, fz, s.e, s.k, s.xs, g, o, q, k1, k2, k3, k4, hsub, i2, k5, by rw [add_none, ← h1]; simp⟩
    · cases h
  | swin n j c lo len =>
    simp only [stIndex] at h
    split at h
    · rename_i s hs
      obtain ⟨h1, h2⟩ := cn_some h
      have h1 := Nat.eq_of_beq_eq_true h1
      simp only [Option.some.injEq, Prod.mk.injEq] at h2
      obtain ⟨h3, rfl, rfl⟩ := h2
      obtain ⟨i0, i1, i2⟩ := inb_ok h3
      obtain ⟨s0, b, cs, fz, e', k', ys, A, q, A2, k1, k2, k3, k4, k5, k6, k7, k8, rfl, k9⟩ := hx
      have hsv : s = ⟨e', k', ys⟩ := by
        simp only [readSl] at hs
        rw [rowOf_get k1] at hs
        simp only [k5] at hs
        exact (Option.some.inj hs).symm
      subst hsv
      have hx : vrel st.heap β col w (.sub n j c) (.slice A ys.length q) := ⟨s0, b, cs, fz, k1, k2, k3, k4, k8, _, k5⟩
      obtain ⟨A', q', e1, hq, hh⟩ := sub_read S hx hs
      cases e1
      rcases hh with he | ⟨g, o, cs', e2, fz', rfl, hg, hw, hel⟩
      · simp only at he; rw [he] at k6; simp at k6; omega
      · have hA2 := k9.resolve_left (by omega)
        subst hA2
        refine ⟨rfl, _, fun w2 _ => run_index hu h0 i0 i1, ?_⟩
        exact ⟨s0, b, cs, fz, e', k', ys, g, o, q, k1, k2, k3, k4, k5, by omega, k8, by simp only at h1; show Value.pointer (some ((Addr.add ⟨g, o, none⟩ (lo * k'.sz)).add _)) = _; rw [add_none, add_none, ← h1]; simp [Nat.add_mul, Nat.add_assoc]⟩
    · cases h
  | _ => simp [stIndex] at h
end
end Go.Proofs.YtlkbmcmglkdciaaE
