/- append, all of it. No condition. -/
import Derived.Test.YtlkbmcmglkdciaaE16
set_option linter.unusedVariables false
set_option linter.unusedSectionVars false
set_option linter.unusedSimpArgs false
namespace Go.Proofs.YtlkbmcmglkdciaaE
open Go Go.RowKit

section
variable {own0 : Own} {w0 W : World} {st : St} {a : Act} {w : World} {β : Bs} {col : Col} {P : Program} {o : Oper}

theorem seg_append {A B : Array Value} {o s : Nat} (h : o + s ≤ A.size) : seg (A ++ B) o s = seg A o s := by
  simp only [seg, Array.toList_append]
  rw [List.drop_append, List.take_append]
  have : s - (A.toList.drop o).length = 0 := by simp; omega
  rw [this]; simp
theorem list_split {A B : List Value} {n i sz : Nat} (hA : A.length = n * sz) (hi : ¬ i < n) : (A ++ B).drop (i * sz) = B.drop ((i - n) * sz) := by
  have e : i * sz = n * sz + (i - n) * sz := by rw [← Nat.add_mul]; congr 1; omega
  rw [List.drop_append, List.drop_of_length_le (by have := Nat.mul_le_mul_right sz (Nat.le_of_not_lt hi); omega)]
  rw [List.nil_append]
  congr 1; omega

/-- What was there is as it was, but for blocks of type e. -/
def OldT (e : Nat) (w w' : World) : Prop := w.heap.size ≤ w'.heap.size ∧ ∀ g : Nat, g < w.heap.size → (∀ (cs : Array Value) (fz : Nat × Nat), w.heap[g]? ≠ some (Obj.cells cs e fz)) → w'.heap[g]? = w.heap[g]?
/-- The rows of root n are longer now: in place, or in a new block. -/
theorem stApp_ok (S : Sat own0 w0 st a w β col) {t t' e n : Nat} {k : Kind} {ys : List k.den} {ms : List Nat} {vx vy : Value} {L : List Value} {zz : List AV} {v : AV} {st' : St}
    (hu : P.underlying t = some (.slice e)) (hsz : P.cellsOf e = k.sz) (hrun : AppRun P t t' e w vy ys.length L) (hz : zeroT P e = some (k, zz))
    (hx : vrel st.heap β col w (.ref n) vx) (src : SrcD w col k ys ms L) (hms : ∀ m ∈ ms, ∃ s, rowsOf st.heap m = some s)
    (h : stApp P e k ys ms n st = some (true, v, st')) (ty : TypeId) :
    ∃ r w' β' col', (Builtin.append_ #[t, t'] ty #[vx, vy]).run P w = .ok r w' ∧ Sat own0 w0 st' a w' β' col' ∧ vrel st'.heap β' col' w' v r ∧ OldT e w w' := by
  unfold stApp at h
  split at h
  case h_2 => cases h
  rename_i s hs
  split at h
  case h_2 => cases h
  rename_i xs hk
  obtain ⟨e0, rfl⟩ := rowK_ok hk
  obtain ⟨h1, h2⟩ := cn_some h
  simp only [Bool.and_eq_true] at h1
  have he : e = e0 := Nat.eq_of_beq_eq_true h1.1
  subst he
  have hn := notIn_ok h1.2.1
  have hnf : (kills ms st).nf ≤ n := by rw [kills_nf]; exact Nat.le_of_ble_eq_true h1.2.2.2
  simp only [Option.some.injEq, Prod.mk.injEq] at h2
  obtain ⟨h3, rfl, rfl⟩ := h2
  simp only [appOk, Bool.and_eq_true, decide_eq_true_eq] at h3
  obtain ⟨rfl, ti, z, i1, i2, i3, i4, i5⟩ := zeroT_ok hz
  have hpos := sz_pos k
  have hposP : 0 < P.cellsOf e := by omega
  -- the root, and its recoloured surroundings
  obtain ⟨A, c, rfl, hc, hb⟩ := ref_row hx hs
  simp only at hc hb
  have S1 := S.kills ms
  have hgetn : rowsOf (kills ms st).heap n = some ⟨e, k, xs⟩ := kills_get hn hs
  have S2 := S1.recolor (p := fun g => ∃ m ∈ ms, col g = some (m, false)) (n, false) (fun g ⟨m, hm, hg⟩ => ⟨m, false, by obtain ⟨s, hs⟩ := hms m hm; exact live_ne S.zero (rowOf_get hs) (by simp), hg, by
    obtain ⟨s, hs⟩ := hms m hm
    exact .inl (kills_dead (.inr ⟨hm, getN_lt (rowOf_get hs)⟩))⟩)
  generalize hcol2 : recol col (fun g => ∃ m ∈ ms, col g = some (m, false)) (n, false) = col2 at S2
  have hyes : ∀ g, (∃ m ∈ ms, col g = some (m, false)) → col2 g = some (n, false) := fun g hg => by rw [← hcol2]; exact recol_yes hg
  have hno : ∀ g, ¬ (∃ m ∈ ms, col g = some (m, false)) → col2 g = col g := fun g hg => by rw [← hcol2]; exact recol_no hg
  have hold : ∀ g, col g = some (n, false) → col2 g = some (n, false) := fun g hg => by
    rw [hno g (fun ⟨m, hm, h⟩ => by rw [hg] at h; cases h; exact hn hm)]; exact hg
  have hR := rowRel S2 hgetn
  have hR0 := rowRel S hs
  have hlt : n < (kills ms st).heap.length := getN_lt (rowOf_get hgetn)
  have hn0 : n ≠ 0 := live_ne S.zero (rowOf_get hs) (by simp)
  have hlive2 : ∀ {w' : World} {col' : Col}, (∀ g, g < w.heap.size → col' g = col2 g) → (∀ g x, (∀ b, β n = some b → g ≠ b.g) → w.heap[g]? = some x → w'.heap[g]? = some x) →
      (∀ m r, m ≠ n → getN (kills ms st).heap m = some r → r ≠ .dead → ∀ g y x, col2 g = some (m, y) → w.heap[g]? = some x → col' g = col2 g ∧ w'.heap[g]? = some x) := by
    intro w' col' hc1 hw1 m r hm hr hd g y x hg hx
    refine ⟨hc1 g (Array.getElem?_eq_some_iff.1 hx).1, hw1 g x (fun b hb e => ?_) hx⟩
    subst e
    unfold rootRel at hR
    rw [hb] at hR
    obtain ⟨_, _, k1, _⟩ := hR
    rw [hg] at k1; cases k1; exact hm rfl
  have hzone2 : ∀ {w' : World} {col' : Col}, (∀ g, g < w.heap.size → col' g = col2 g) → (∀ g x, (∀ b, β n = some b → g ≠ b.g) → w.heap[g]? = some x → w'.heap[g]? = some x) →
      (∀ g x, col2 g = none → w.heap[g]? = some x → col' g = none ∧ w'.heap[g]? = some x) := by
    intro w' col' hc1 hw1 g x hg hx
    refine ⟨by rw [hc1 g (Array.getElem?_eq_some_iff.1 hx).1]; exact hg, hw1 g x (fun b hb e => ?_) hx⟩
    subst e
    unfold rootRel at hR
    rw [hb] at hR
    obtain ⟨_, _, k1, _⟩ := hR
    rw [hg] at k1; cases k1
  -- the old cells
  have hxc : xs.length = 0 ∨ ∃ g o cs e' fz, A = some ⟨g, o, none⟩ ∧ w.heap[g]? = some (.cells cs e' fz) ∧ o + xs.length * k.sz ≤ cs.size := by
    unfold rootRel at hR0
    cases hβ : β n with
    | none => rw [hβ] at hR0; left; simp only at hR0; rw [hR0]; rfl
    | some b =>
      rw [hβ] at hR0 hb
      obtain ⟨cs, fz, k1, k2, k3, k4, k5, k6, k7⟩ := hR0
      by_cases h0 : xs.length = 0
      · exact .inl h0
      · right
        have hA : A = some ⟨b.g, b.o + 0 * k.sz, none⟩ := hb.1.resolve_left (by omega)
        exact ⟨b.g, _, cs, e, fz, hA, k2, by simpa using k5⟩
  let X := if xs.length * k.sz = 0 then [] else cellsVal w k.sz xs.length (.slice A xs.length c)
  have hX : ∀ b cs fz, β n = some b → w.heap[b.g]? = some (.cells cs e fz) → xs.length ≠ 0 → X = seg cs b.o (xs.length * k.sz) := by
    intro b cs fz hβ hw h0
    rw [hβ] at hb
    have hA : A = some ⟨b.g, b.o + 0 * k.sz, none⟩ := hb.1.resolve_left (by omega)
    have : xs.length * k.sz ≠ 0 := Nat.ne_of_gt (Nat.mul_pos (by omega) hpos)
    simp only [X, if_neg this, hA, cellsVal, hw]
    simp
  have hXl : X.length = xs.length * k.sz := by
    unfold rootRel at hR0
    by_cases h0 : xs.length = 0
    · simp [X, h0]
    · cases hβ : β n with
      | none => rw [hβ] at hR0; simp only at hR0; rw [hR0] at h0; exact absurd rfl h0
      | some b =>
        rw [hβ] at hR0
        obtain ⟨cs, fz, k1, k2, k3, k4, k5, _⟩ := hR0
        rw [hX b cs fz hβ k2 h0, seg_len k5]
  have hXrep : ∀ i, ∀ h : i < xs.length, rep w (inner col2 n) k xs[i] ((X.drop (i * k.sz)).take k.sz) := by
    intro i hi
    unfold rootRel at hR
    cases hβ : β n with
    | none => rw [hβ] at hR; simp only at hR; rw [hR] at hi; cases hi
    | some b =>
      rw [hβ] at hR
      obtain ⟨cs, fz, k1, k2, k3, k4, k5, k6, _⟩ := hR
      rw [hX b cs fz hβ k2 (by omega), seg_list (Nat.mul_le_mul_right _ hi)]
      exact k6 i hi
  have hXnod : flat k = true ∨ ((X.filterMap blk).Nodup ∧ ∀ g ∈ X.filterMap blk, col g = some (n, false)) := by
    unfold rootRel at hR0
    by_cases h0 : xs.length = 0
    · right; simp [X, h0]
    · cases hβ : β n with
      | none => rw [hβ] at hR0; simp only at hR0; rw [hR0] at h0; exact absurd rfl h0
      | some b =>
        rw [hβ] at hR0
        obtain ⟨cs, fz, k1, k2, k3, k4, k5, k6, k7⟩ := hR0
        rw [hX b cs fz hβ k2 h0]
        exact k7.imp id (fun h => ⟨h.1, fun g hg => rows_inner (w := w) (col := col) k6 h.2 hg⟩)
  have hXink : ∀ i, i < xs.length → inK w (inner col2 n) k ((X.drop (i * k.sz)).take k.sz) := by
    intro i hi
    unfold rootRel at hR
    cases hβ : β n with
    | none => rw [hβ] at hR; simp only at hR; rw [hR] at hi; cases hi
    | some b =>
      rw [hβ] at hR
      obtain ⟨cs, fz, k1, k2, k3, k4, k5, k6, k7⟩ := hR
      rw [hX b cs fz hβ k2 (by omega), seg_list (Nat.mul_le_mul_right _ hi)]
      rcases k7 with h | h
      · exact inK_flat h
      · exact h.2 i hi
  have hYink : ∀ i, i < ys.length → inK w (inner col2 n) k ((L.drop (i * k.sz)).take k.sz) := fun i hi =>
    inK_mono (fun g ob hg hob => ⟨hyes g hg, hob⟩) (src.ink i hi)
  have hYrep : ∀ i, ∀ h : i < ys.length, rep w (inner col2 n) k ys[i] ((L.drop (i * k.sz)).take k.sz) := fun i hi =>
    rep_mono (fun g ob hg hob => ⟨hyes g hg, hob⟩) (src.rep i hi)
  have hnod : flat k = true ∨ ((X ++ L).filterMap blk).Nodup := by
    rcases hXnod with h | ⟨n1, n2⟩
    · exact .inl h
    · rcases src.nodup with h | ⟨n3, n4⟩
      · exact .inl h
      · right
        rw [List.filterMap_append]
        refine List.nodup_append.2 ⟨n1, n3, fun x hx y hy e' => ?_⟩
        subst e'
        obtain ⟨m, hm, hc'⟩ := n4 x hy
        rw [n2 x hx] at hc'; cases hc'; exact hn hm
  have hall : ∀ {w' : World} {col' : Col} {cs : Array Value} {o' : Nat}, seg cs o' ((xs.length + ys.length) * k.sz) = X ++ L → 
      (∀ {k' : Kind} {x' : k'.den} {vs : List Value}, rep w (inner col2 n) k' x' vs → rep w' (inner col' n) k' x' vs) →
      ∀ i, ∀ h : i < (xs ++ ys).length, rep w' (inner col' n) k (xs ++ ys)[i] (seg cs (o' + i * k.sz) k.sz) := by
    intro w' col' cs o' hseg hm i hi
    have hi' : i < xs.length + ys.length := by simpa using hi
    have hpiece : seg cs (o' + i * k.sz) k.sz = ((X ++ L).drop (i * k.sz)).take k.sz := by
      rw [← hseg, seg_list (Nat.mul_le_mul_right _ hi')]
    rw [hpiece]
    by_cases hix : i < xs.length
    · rw [List.getElem_append_left hix]
      have hle : i * k.sz + k.sz ≤ X.length := by
        have := Nat.mul_le_mul_right k.sz hix
        rw [Nat.succ_mul] at this; omega
      have : ((X ++ L).drop (i * k.sz)).take k.sz = (X.drop (i * k.sz)).take k.sz := by
        rw [List.drop_append, List.take_append]
        have : k.sz - (X.drop (i * k.sz)).length = 0 := by simp; omega
        rw [this]; simp
      rw [this]
      exact hm (hXrep i hix)
    · rw [List.getElem_append_right (by omega), list_split hXl hix]
      exact hm (hYrep _ (by omega))
  have hallI : ∀ {w' : World} {col' : Col} {cs : Array Value} {o' : Nat}, seg cs o' ((xs.length + ys.length) * k.sz) = X ++ L → 
      (∀ g ob, col2 g = some (n, false) → w.heap[g]? = some ob → col' g = some (n, false) ∧ w'.heap[g]? = some ob) →
      owns w' (inner col' n) k (xs.length + ys.length) cs o' := by
    intro w' col' cs o' hseg hm
    rcases hnod with h | hnod
    · exact .inl h
    refine .inr ⟨by rw [hseg]; exact hnod, fun i hi => ?_⟩
    have hpiece : seg cs (o' + i * k.sz) k.sz = ((X ++ L).drop (i * k.sz)).take k.sz := by
      rw [← hseg, seg_list (Nat.mul_le_mul_right _ hi)]
    rw [hpiece]
    by_cases hix : i < xs.length
    · have hle : i * k.sz + k.sz ≤ X.length := by
        have := Nat.mul_le_mul_right k.sz hix
        rw [Nat.succ_mul] at this; omega
      have : ((X ++ L).drop (i * k.sz)).take k.sz = (X.drop (i * k.sz)).take k.sz := by
        rw [List.drop_append, List.take_append]
        have : k.sz - (X.drop (i * k.sz)).length = 0 := by simp; omega
        rw [this]; simp
      rw [this]
      exact inK_mono (fun g ob hg hob => hm g ob hg hob) (hXink i hix)
    · rw [list_split hXl hix]
      exact inK_mono (fun g ob hg hob => hm g ob hg hob) (hYink _ (by omega))
  have hlenP : (xs ++ ys).length = xs.length + ys.length := List.length_append
  by_cases hcap : xs.length + ys.length ≤ c
  · -- in place
    by_cases hy0 : ys.length = 0
    · -- nothing to store
      have hL0 : L = [] := List.eq_nil_of_length_eq_zero (by rw [src.size, hy0]; simp)
      have hys : ys = [] := List.eq_nil_of_length_eq_zero hy0
      refine ⟨_, w, _, _, hrun.inn hcap (w' := w) ?_ ty, S2.replace hlt hnf (b1 := β n) (w' := w) (col' := col2)
        (fun g x hg hx => ⟨hg, hx⟩) (fun m r _ _ _ g y x _ hx => ⟨rfl, hx⟩) S2.fr hn0 S2.col (fun g _ h => h) (fun h' => ?_), ?_⟩
      · rw [hL0]; cases A <;> rfl
      · unfold rootRel at hR ⊢
        rw [upd_self]
        cases hβ : β n with
        | none => rw [hβ] at hR; simp only at hR ⊢; rw [hR, hys]; rfl
        | some b => rw [hβ] at hR; simp only at hR ⊢; rw [hys]; simpa using hR
      · refine ⟨ref_mk (s := ⟨e, k, xs ++ ys⟩) (rowOf_of (by rw [getN_set, if_pos rfl, if_pos (by rw [forgetH_len]; exact hlt)])) ⟨A, c, by rw [hlenP], by rw [hlenP]; exact hcap, ?_⟩, ⟨Nat.le_refl _, fun g _ _ => rfl⟩⟩
        rw [upd_self]
        revert hb
        cases β n with
        | none => exact fun hb => ⟨hb.1, rfl⟩
        | some b => exact fun hb => hb
    · unfold rootRel at hR
      cases hβ : β n with
      | none => rw [hβ] at hb; simp only at hb; omega
      | some b =>
        rw [hβ] at hR hb
        obtain ⟨cs, fz, k1, k2, k3, k4, k5, k6, k7⟩ := hR
        have hA : A = some ⟨b.g, b.o + 0 * k.sz, none⟩ := hb.1.resolve_left (by omega)
        have hbS := hb.2
        have hcc := Nat.mul_le_mul_right k.sz hcap
        rw [Nat.add_mul] at hcc
        have hLl := src.size
        have e0 : b.o + 0 * k.sz = b.o := by simp
        rw [e0] at hA hbS
        obtain ⟨w', cs', r1, p1, q1, q2⟩ := run_storeCells (P := P) (g := b.g) (o := b.o + xs.length * k.sz) L 0 k2 (by omega) k4 src.one
        have hown : w0.heap.size ≤ b.g ∨ own0 b.g = 1 := (S2.col b.g (by rw [k1]; simp)).1.resolve_left (fun ⟨x, hx⟩ => by rw [k1] at hx; cases hx; exact hn0 rfl)
        have hseg : seg cs' b.o ((xs.length + ys.length) * k.sz) = X ++ L := by
          have hX' : X = seg cs b.o (xs.length * k.sz) := by
            by_cases h0 : xs.length = 0
            · simp [X, h0, seg]
            · exact hX b cs fz hβ k2 h0
          rw [hX']
          unfold seg
          rw [q1]
          apply List.ext_getElem?
          intro j
          simp only [List.getElem?_take, List.getElem?_drop, setAt, List.append_assoc, Nat.add_zero]
          by_cases hj : j < (xs.length + ys.length) * k.sz
          · rw [if_pos hj]
            rw [Nat.add_mul] at hj
            by_cases hj1 : j < xs.length * k.sz
            · rw [List.getElem?_append_left (by simp; omega), List.getElem?_append_left (by simp; omega)]
              simp only [List.getElem?_take, List.getElem?_drop]
              rw [if_pos (by omega), if_pos hj1]
            · rw [List.getElem?_append_right (by simp; omega), List.getElem?_append_left (by simp; omega), List.getElem?_append_right (by simp; omega)]
              congr 1
              simp; omega
          · rw [if_neg hj, List.getElem?_eq_none]
            rw [Nat.add_mul] at hj
            simp; omega
        refine ⟨_, w', _, _, hrun.inn hcap (w' := w') ?_ ty, S2.replace hlt hnf (b1 := some b) (w' := w') (col' := col2)
          (hzone2 (fun g _ => rfl) (fun g x hg hx => by rw [p1.far g (hg b hβ)]; exact hx)) (hlive2 (fun g _ => rfl) (fun g x hg hx => by rw [p1.far g (hg b hβ)]; exact hx)) ?_ hn0 ?_ (fun g _ h => h) (fun h' => ?_), ?_⟩
        · rw [hA]; simp only; rw [add_none, hsz]; exact r1
        · refine ⟨p1.os.trans S2.fr.os, p1.tape.trans S2.fr.tape, p1.output.trans S2.fr.output, by rw [p1.size]; exact S2.fr.size, fun g hg hn' => ?_⟩
          rw [p1.far g (by rintro rfl; rcases hown with h | h; exact absurd hg (by omega); exact hn' h)]
          exact S2.fr.block g hg hn'
        · intro g hg
          have := S2.col g hg
          exact ⟨this.1, by rw [p1.size]; exact this.2⟩
        · unfold rootRel
          rw [upd_self]
          simp only [hlenP]
          refine ⟨cs', fz, k1, p1.here, by rw [q2]; exact k3, by rw [q2]; exact k4, by rw [q2, Nat.add_mul]; omega, fun i hi => ?_, ?_⟩
          · refine hall hseg (fun hr => rep_mono (fun g ob hg hob => ⟨hg, ?_⟩) hr) i (by rw [hlenP]; exact hi)
            rw [p1.far g (by rintro rfl; unfold inner at hg; rw [k1] at hg; cases hg)]; exact hob
          · exact hallI hseg fun g ob hg hob => ⟨hg, by rw [p1.far g (by rintro rfl; rw [k1] at hg; cases hg)]; exact hob⟩
        · refine ⟨ref_mk (s := ⟨e, k, xs ++ ys⟩) (rowOf_of (by rw [getN_set, if_pos rfl, if_pos (by rw [forgetH_len]; exact hlt)])) ⟨A, c, by rw [hlenP], by rw [hlenP]; exact hcap, ?_⟩, ⟨by rw [p1.size]; exact Nat.le_refl _, fun g _ hg => p1.far g (by rintro rfl; exact hg _ _ k2)⟩⟩
          rw [upd_self]
          exact ⟨.inr (by rw [hA]; simp), by simpa using hbS⟩
  · -- a new block
    obtain ⟨cap, w', hcap', r1, hg⟩ := hrun.new (A := A) (len := xs.length) (c := c) (X := X) i1 i2
      (fun f hw => by rw [hsz]; exact run_cellsVal (W := w) hxc (Nat.le_refl _) hw f) hcap h3.1 h3.2 ty
    have hzl : (Builtin.zeroCells z.cells (cap - (xs.length + ys.length))).size = (cap - (xs.length + ys.length)) * k.sz := by simp [Builtin.zeroCells, i5]
    let cs : Array Value := X.toArray ++ L.toArray ++ Builtin.zeroCells z.cells (cap - (xs.length + ys.length))
    have hcs : cs.size = cap * k.sz := by
      simp only [cs, Array.size_append, List.size_toArray, hzl, hXl, src.size]
      rw [← Nat.add_mul, ← Nat.add_mul]
      congr 1; omega
    have hseg : seg cs 0 ((xs.length + ys.length) * k.sz) = X ++ L := by
      have e1 : (X ++ L).length = (xs.length + ys.length) * k.sz := by rw [List.length_append, hXl, src.size, Nat.add_mul]
      simp only [seg, cs, Array.toList_append, List.drop_zero]
      rw [List.take_append_of_le_length (by simp [hXl, src.size, Nat.add_mul])]
      rw [List.take_of_length_le (by simp [hXl, src.size, Nat.add_mul])]
    let col' : Col := upd col2 w.heap.size (some (n, true))
    have hc' : ∀ g, g < w.heap.size → col' g = col2 g := fun g hg => upd_ne _ _ (by omega)
    refine ⟨_, w', _, _, r1, S2.replace hlt hnf (b1 := some ⟨w.heap.size, 0, cs.size⟩) (w' := w') (col' := col') (fun g x hg1 hx => ?_) (fun m r hm hr hd g y x hg1 hx => ?_) (hg.fr S2.fr) hn0 ?_ (fun g hg1 h => by rw [hc' g (by have := S2.fr.size; omega)] at h; exact h) (fun h' => ?_), ?_⟩
    · exact ⟨by rw [hc' g (Array.getElem?_eq_some_iff.1 hx).1]; exact hg1, hg.old hx⟩
    · exact ⟨hc' g (Array.getElem?_eq_some_iff.1 hx).1, hg.old hx⟩
    · intro g hg1
      by_cases e' : g = w.heap.size
      · subst e'
        exact ⟨.inr (.inl S2.fr.size), by rw [hg.heap]; simp⟩
      · have hg2 : col' g = col2 g := upd_ne _ _ e'
        rw [hg2] at hg1 ⊢
        have := S2.col g hg1
        exact ⟨this.1, by rw [hg.heap]; simp; omega⟩
    · unfold rootRel
      rw [upd_self]
      simp only [hlenP]
      refine ⟨cs, (0, 0), upd_self _ _ _, hg.new, rfl, fun j _ h => by simp at h, by rw [hcs]; have := Nat.mul_le_mul_right k.sz hcap'; omega, fun i hi => ?_, ?_⟩
      · exact hall hseg (fun hr => rep_mono (fun g ob hg1 hob => ⟨by unfold inner at hg1 ⊢; rw [hc' g (Array.getElem?_eq_some_iff.1 hob).1]; exact hg1, hg.old hob⟩) hr) i (by rw [hlenP]; exact hi)
      · exact hallI hseg fun g ob hg1 hob => ⟨by rw [hc' g (Array.getElem?_eq_some_iff.1 hob).1]; exact hg1, hg.old hob⟩
    · refine ⟨ref_mk (s := ⟨e, k, xs ++ ys⟩) (rowOf_of (by rw [getN_set, if_pos rfl, if_pos (by rw [forgetH_len]; exact hlt)])) ⟨_, cap, by rw [hlenP], by rw [hlenP]; exact hcap', ?_⟩, ⟨by rw [hg.heap]; simp, fun g hl _ => by rw [hg.old (Array.getElem?_eq_getElem hl)]; exact (Array.getElem?_eq_getElem hl).symm⟩⟩
      rw [upd_self]
      exact ⟨.inr (by simp), by rw [hcs]; simp⟩
end
end Go.Proofs.YtlkbmcmglkdciaaE
