/- Stores into elements of inner rows. No condition. -/
import Derived.Test.YtlkbmcmglkdciaaE40
set_option linter.unusedVariables false
set_option linter.unusedSectionVars false
set_option linter.unusedSimpArgs false
namespace Go.Proofs.YtlkbmcmglkdciaaE
open Go Go.RowKit
open Classical

theorem scalC_ok {l : List AV} (h : l.all scalC = true) : l.all cellOk1 = true := by
  rw [List.all_eq_true] at h ⊢
  intro v hv
  have := h v hv
  cases v <;> first | rfl | (cases this; done)

section
variable {own0 : Own} {w0 : World} {st : St} {a : Act} {w : World} {β : Bs} {col : Col} {P : Program} {o : Oper}
theorem do_storeN (S : Sat own0 w0 st a w β col) {t n i q j d : Nat} {x y : Operand} {u v : AV} {st' : St} (ho : o.op = .store t x y)
    (h1 : ev st x = some (.nptr n i q j d)) (h2 : ev st y = some u) (h : stStoreN P t n i q j d u st = some (true, v, st')) :
    Does P own0 w0 o a w β col st v st' := by
  have hx := ev_ok S h1
  have hv := ev_ok S h2
  unfold stStoreN at h
  obtain ⟨h3, h4⟩ := cn_some h
  simp only [Bool.and_eq_true] at h3
  have hlen := Nat.eq_of_beq_eq_true h3.1
  have hpos := Nat.le_of_ble_eq_true h3.2.1
  have hc := scalC_ok h3.2.2
  rw [lenN_eq] at hlen hpos
  split at h4
  case h_2 => cases h4
  rename_i s e k xs hs hr
  split at h4
  case h_2 => cases h4
  rename_i z ms hd
  obtain ⟨h5, h6⟩ := cn_some h4
  simp only [Bool.and_eq_true] at h5
  obtain ⟨hflat, hflat2, hin⟩ := h5
  have hin := Nat.le_of_ble_eq_true hin
  rw [lenN_eq] at hin
  rw [lenN_eq] at h6
  simp only at h6
  split at h6
  case h_2 => cases h6
  rename_i st3 hst3
  obtain ⟨_, rfl, rfl⟩ := ok1_eq h6
  unfold fillT at hst3
  split at hst3
  case h_2 => cases hst3
  rename_i x' ms' hden
  cases hst3
  obtain ⟨s0, b, cs, fz, e', k', ys, g', o', q', p1, p2, p3, p4, p5, p6, p7, p8⟩ := hx
  rw [rowOf_of hr] at p1
  cases p1
  simp only at p3 p4 p5 p7
  have hs' : s = ⟨e', k', ys⟩ := by
    simp only [readSl, hr, p5] at hs
    exact (Option.some.inj hs).symm
  subst hs'
  simp only at hd hflat hin hden
  have hsub : vrel st.heap β col w (.sub n i q) (.slice (some ⟨g', o', none⟩) ys.length q') := ⟨⟨e, k, xs⟩, b, cs, fz, rowOf_of hr, p2, p3, p4, p7, _, p5⟩
  obtain ⟨mb, β1, col1, S1, t1, t2, t3, t4, t5, t6, t7⟩ := take_ok S hsub hs hr hflat
  have hlenk : (setN (forgetH n st.heap) n Root.dead).length = st.heap.length := by rw [setN_len, forgetH_len]
  have H1m : getN (takeS n ⟨e', k', ys⟩ st).heap st.heap.length = some (.rows e' k' ys) := by
    show getN (hpush _ _) _ = _
    rw [getN_push, hlenk, if_neg (by omega), if_pos rfl]
  have H1len : (takeS n ⟨e', k', ys⟩ st).heap.length = st.heap.length + 1 := by
    show (hpush _ _).length = _
    simp [hpush, hlenk]
  -- where it lies
  obtain ⟨b1, hb1, hg1, ho1⟩ : ∃ b1, mb = some b1 ∧ g' = b1.g ∧ o' = b1.o := by
    obtain ⟨A, c, e2, e3, e4⟩ := ref_row t3 (rowOf_of H1m)
    cases e2
    rw [t2] at e4
    cases mb with
    | none => simp only at e4 e3; omega
    | some b1 =>
      simp only at e4 e3
      have := e4.1.resolve_left (by omega)
      simp at this
      exact ⟨b1, rfl, this.1, this.2⟩
  subst hg1; subst ho1; subst hb1
  have hR := S1.heap _ _ H1m
  unfold rootRel at hR
  rw [t2] at hR
  obtain ⟨cs1, fz1, k1, k2, k3, k4, k5, k6, _⟩ := hR
  have hcs := cells_of hv hc
  have hl1 := vrels_len hcs
  have hgx : getAt k'.dflt ys j = ys[j] := by simp [getAt, p6]
  rw [hgx] at hd
  have hle : b1.o + j * k'.sz + k'.sz ≤ cs1.size := by
    have : (j + 1) * k'.sz ≤ ys.length * k'.sz := Nat.mul_le_mul_right _ p6
    rw [Nat.add_mul] at this; omega
  obtain ⟨w2, cs2, r1, pw, e1, e2⟩ := run_storeAt (P := P) (t := t) (x := a.eval y) (off := b1.o + j * k'.sz + d) (by simp at hl1; omega) (by omega) k2 (by simp at hl1; omega) k4 (cells_all_one hc hcs)
  have hxl : (a.eval y).cells.toList.length = u.cells.length := hl1.symm
  have hxs : (a.eval y).cells.size = u.cells.length := by simpa using hxl
  have hnew : seg cs2 (b1.o + j * k'.sz) k'.sz = setAt (seg cs1 (b1.o + j * k'.sz) k'.sz) d (a.eval y).cells.toList := by
    unfold seg
    rw [e1, seg_setIn (by omega) (by omega) (by simp; omega)]
    congr 1; omega
  have hold := k6 j p6
  obtain ⟨lK, cK⟩ := cellsK_ok (h := st.heap) (β := β) (col := col) hold (inK_flat hflat)
  have lold : (seg cs1 (b1.o + j * k'.sz) k'.sz).length = k'.sz := seg_len hle
  have hsp : splice (cellsK k' ys[j]) d u.cells = (cellsK k' ys[j]).take d ++ u.cells ++ (cellsK k' ys[j]).drop (d + u.cells.length) := by simp [splice, takeN_eq, dropN_eq, lenN_eq]
  have hD := denAt_ok S (Z0 := inner col1 st.heap.length) hd (cs := seg cs2 (b1.o + j * k'.sz) k'.sz) (by rw [hsp, hnew, setAt_len (by omega)]; simp [lK, lold]; omega) (fun j' u' q hu hq => by
    rw [hsp] at hu
    rw [hnew] at hq
    unfold setAt at hq
    by_cases hj1 : j' < d
    · rw [List.append_assoc, List.getElem?_append_left (by simp; omega), List.getElem?_take, if_pos hj1] at hu hq
      obtain ⟨c1, c2⟩ := cK j' u' q hu hq
      exact ⟨c1, fun hh => c2 hh⟩
    · by_cases hj2 : j' < d + u.cells.length
      · rw [List.getElem?_append_left (by simp; omega), List.getElem?_append_right (by simp; omega)] at hu hq
        simp only [List.length_take] at hu hq
        rw [Nat.min_eq_left (by omega)] at hu hq
        obtain ⟨q', hq', hrel⟩ := vrels_get hcs hu
        rw [hq] at hq'; cases hq'
        have hu' : cellOk1 u' = true := by
          rw [List.all_eq_true] at hc
          exact hc u' (List.mem_of_getElem? hu)
        exact ⟨fun h => (by subst h; cases hu'), fun _ => hrel⟩
      · rw [List.getElem?_append_right (by simp; omega), List.getElem?_drop] at hu hq
        simp only [List.length_append, List.length_take] at hu hq
        rw [Nat.min_eq_left (by omega)] at hu hq
        rw [show d + u.cells.length + (j' - (d + u.cells.length)) = j' by omega] at hu
        rw [hxl, show d + u.cells.length + (j' - (d + u.cells.length)) = j' by omega] at hq
        obtain ⟨c1, c2⟩ := cK j' u' q hu hq
        exact ⟨c1, fun hh => c2 hh⟩)
  obtain ⟨⟨hrep, _⟩, _⟩ := hD
  have hsegs : ∀ i', i' ≠ j → seg cs2 (b1.o + i' * k'.sz) k'.sz = seg cs1 (b1.o + i' * k'.sz) k'.sz := fun i' hii => by
    unfold seg
    rw [e1]
    refine seg_setAt (by simp; omega) ?_
    rcases Nat.lt_or_ge i' j with h | h
    · right
      have : (i' + 1) * k'.sz ≤ j * k'.sz := Nat.mul_le_mul_right _ h
      rw [Nat.add_mul] at this; omega
    · left
      have : (j + 1) * k'.sz ≤ i' * k'.sz := Nat.mul_le_mul_right _ (by omega)
      rw [Nat.add_mul] at this; omega
  have S2 : Sat own0 w0 { takeS n ⟨e', k', ys⟩ st with heap := setN (takeS n ⟨e', k', ys⟩ st).heap st.heap.length (.rows e' k' (ys.set j z)) } a w2 β1 col1 := by
    refine S1.write (r1 := .rows e' k' (ys.set j z)) H1m (by simp) (fun g x h => h) t2 k1 k1 pw ⟨rfl, rfl, by simp⟩ rfl (by simp [rlen]) (fun g h => h) (fun g h => h) (fun g h => h) (fun m r _ _ _ g x _ => rfl) (fun t => .inr ⟨rfl, .inl fun e' k' xs' h => by cases h; exact hflat⟩) (fun keep => ?_)
    unfold rootRel
    rw [t2]
    refine ⟨cs2, fz1, k1, pw.here, by rw [e2]; exact k3, by rw [e2]; exact k4, by rw [e2, List.length_set]; exact k5, fun i' hi' => ?_, .inl hflat⟩
    simp only [List.length_set] at hi'
    by_cases hii : i' = j
    · subst hii
      rw [List.getElem_set_self]
      exact rep_flat hflat hrep
    · rw [List.getElem_set_ne (Ne.symm hii), hsegs i' hii]
      exact rep_flat hflat (k6 i' hi')
  have hml : st.heap.length < (takeS n ⟨e', k', ys⟩ st).heap.length := by omega
  have hkept : Kept [st.heap.length] [] (takeS n ⟨e', k', ys⟩ st).heap (setN (takeS n ⟨e', k', ys⟩ st).heap st.heap.length (.rows e' k' (ys.set j z))) w w2 col1 col1 β1 β1 := by
    refine ⟨fun g hg hn => ⟨rfl, pw.far g ?_⟩, fun _ _ => rfl, fun m r hm hd _ => ?_, fun m s' hs' _ => ?_, by rw [pw.size]; exact Nat.le_refl _, by rw [setN_len]; exact Nat.le_refl _, fun m r hm _ => (by cases hm), fun m t vs hm hn => ⟨vs, by rw [getN_set, if_neg (fun e => hn (by rw [e]; exact List.mem_singleton.2 rfl))]; exact hm, rfl⟩, fun m hm => ?_, fun m _ h => (by cases h), fun m s' hm hn _ => rowOf_of (by rw [getN_set, if_neg (fun e => hn (by rw [e]; exact List.mem_singleton.2 rfl))]; exact rowOf_get hm)⟩
    · rintro rfl
      exact hn st.heap.length true (live_ne S1.zero H1m (by simp)) (.inl (List.mem_singleton.2 rfl)) k1
    · by_cases e : m = st.heap.length
      · subst e
        rw [H1m] at hm; cases hm
        refine ⟨rfl, fun r' hr' => ?_⟩
        · rw [H1m] at hr'; cases hr'
          exact ⟨.rows e' k' (ys.set j z), by rw [getN_set, if_pos rfl, if_pos hml], rfl, by simp [rlen]⟩
      · exact ⟨rfl, fun r' hr' => ⟨r', by rw [getN_set, if_neg e]; exact hr', rfl, rfl⟩⟩
    · by_cases e : m = st.heap.length
      · subst e
        rw [rowOf_of H1m] at hs'; cases hs'
        exact ⟨ys.set j z, rowOf_of (by rw [getN_set, if_pos rfl, if_pos hml]), by simp⟩
      · exact ⟨s'.xs, rowOf_of (by rw [getN_set, if_neg e]; exact rowOf_get hs'), rfl⟩
    · rw [getN_set, if_neg (fun e => by rw [e, H1m] at hm; cases hm)]; exact hm
  rw [lenN_eq] at *
  obtain ⟨β3, col3, S3⟩ := fill_ok S hsub hr hflat2 S1 t1 t2 t3 t4 t6 S2 hkept (List.mem_singleton.2 rfl) rfl hden (d := none) (vv := undef) rfl
  refine ⟨undef, w2, β3, col3, .inr ⟨?_, rfl⟩, S3, trivial, fun q h => wrQ_not (by unfold wrOp; rw [ho]) (by unfold appE; rw [ho]) h⟩
  unfold execOp
  rw [ho]
  refine run_skip (s := Instr.storeAt t (a.eval x) (a.eval y)) (r := ()) ?_
  rw [p8]; exact r1
end
end Go.Proofs.YtlkbmcmglkdciaaE
