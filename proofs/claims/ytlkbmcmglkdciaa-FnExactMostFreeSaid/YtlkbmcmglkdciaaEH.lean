/- A hole is filled. No condition. -/
import Derived.Test.YtlkbmcmglkdciaaE13
set_option linter.unusedVariables false
set_option linter.unusedSectionVars false
set_option linter.unusedSimpArgs false
namespace Go.Proofs.YtlkbmcmglkdciaaE
open Go Go.RowKit

section
variable {own0 : Own} {w0 : World} {st : St} {a : Act} {w : World} {β : Bs} {col : Col} {P : Program} {o : Oper}

theorem win_rep (S : Sat own0 w0 st a w β col) {m lo len : Nat} {s : Sl} {c : Value} (hs : rowsOf st.heap m = some s) (hf : flat s.k = true) (hv : vrel st.heap β col w (.win m lo len) c) :
    (∀ Z : Nat → Prop, (∀ b, β m = some b → Z b.g) → rep w Z (.sl s.e s.k) ((s.xs.drop lo).take len) [c] ∧ capP w Z s.e s.k.sz c) ∧ ((blk c).toList = [] ∨ (blk c).toList = mbl β [m]) := by
  obtain ⟨hl, A, q, rfl, hq, hb⟩ := win_row hv hs
  have hlen : ((s.xs.drop lo).take len).length = len := by simp; omega
  have hR := rowRel S hs
  unfold rootRel at hR
  cases hβ : β m with
  | none =>
    rw [hβ] at hR hb
    simp only at hR hb
    obtain ⟨rfl, _⟩ := hb
    have h0 : len = 0 := by omega
    subst h0
    refine ⟨fun Z hZ => ⟨⟨A, 0, by simp, by simp, .inl (by simp)⟩, .inl rfl⟩, .inl (by cases A <;> simp [blk])⟩
  | some b =>
    rw [hβ] at hR hb
    simp only at hR hb
    obtain ⟨cs, fz, k1, k2, k3, k4, k5, k6, k7⟩ := hR
    obtain ⟨hb1, hb2⟩ := hb
    have hcap : ∀ Z : Nat → Prop, (∀ b, β m = some b → Z b.g) → capP w Z s.e s.k.sz (.slice A len q) := fun Z hZ => by
      rcases hb1 with h | h
      · exact .inl h
      · exact .inr ⟨b.g, _, cs, fz, h, hZ b hβ, k2, k4, by omega⟩
    have hblk : (blk (.slice A len q)).toList = [] ∨ (blk (.slice A len q)).toList = mbl β [m] := by
      rcases hb1 with h | h
      · subst h; left; cases A <;> simp [blk]
      · subst h
        by_cases h0 : q = 0
        · left; simp [blk, h0]
        · right; simp [blk, h0, mbl, hβ]
    refine ⟨fun Z hZ => ⟨?_, hcap Z (fun b' hb' => hZ b' (by rw [← hβ]; exact hb'))⟩, hblk⟩
    by_cases h0 : len = 0
    · exact ⟨A, q, by rw [hlen], by rw [hlen]; exact hq, .inl (List.eq_nil_of_length_eq_zero (by rw [hlen]; exact h0))⟩
    · have hA : A = some ⟨b.g, b.o + lo * s.k.sz, none⟩ := hb1.resolve_left (by omega)
      subst hA
      refine ⟨_, q, by rw [hlen], by rw [hlen]; exact hq, .inr ⟨b.g, _, cs, _, fz, rfl, hZ b rfl, k2, fun i hi => ?_⟩⟩
      have hi' : i < len := by rw [← hlen]; exact hi
      have := k6 (lo + i) (by omega)
      rw [show b.o + lo * s.k.sz + i * s.k.sz = b.o + (lo + i) * s.k.sz by rw [Nat.add_mul]; omega]
      have e : ((s.xs.drop lo).take len)[i] = s.xs[lo + i] := by simp
      rw [e]
      exact rep_flat hf this

theorem head_rep (S : Sat own0 w0 st a w β col) {v : AV} {m : Nat} {s : Sl} {c : Value} (hh : headR v = some m) (hs : readSl st.heap v = some s) (hf : flat s.k = true) (hv : vrel st.heap β col w v c) :
    ((∀ Z : Nat → Prop, (∀ b, β m = some b → Z b.g) → rep w Z (.sl s.e s.k) s.xs [c] ∧ capP w Z s.e s.k.sz c) ∧ ((blk c).toList = [] ∨ (blk c).toList = mbl β [m])) ∧ (∃ s0, rowsOf st.heap m = some s0) ∧ ∃ A l q, c = .slice A l q := by
  cases v <;> simp only [headR] at hh <;> first | (cases hh; done) | skip
  · cases hh
    simp only [readSl] at hs
    split at hs
    · rename_i e k xs hr
      cases hs
      refine ⟨ref_rep S (rowOf_of hr) hf hv, ⟨_, rowOf_of hr⟩, ?_⟩
      obtain ⟨A, q, rfl, _⟩ := ref_row hv (rowOf_of hr)
      exact ⟨_, _, _, rfl⟩
    · cases hs
  · cases hh
    simp only [readSl] at hs
    split at hs
    · rename_i e k xs hr
      cases hs
      refine ⟨win_rep S (rowOf_of hr) hf hv, ⟨_, rowOf_of hr⟩, ?_⟩
      obtain ⟨_, A, q, rfl, _⟩ := win_row hv (rowOf_of hr)
      exact ⟨_, _, _, rfl⟩
    · cases hs

theorem seg_one {cs : Array Value} {o n : Nat} (h : o + n ≤ cs.size) {j : Nat} (hj : j < n) : seg cs o n = seg cs o j ++ (seg cs (o + j) 1 ++ seg cs (o + j + 1) (n - (j + 1))) := by
  have split2 : ∀ (o' p q : Nat), seg cs o' (p + q) = seg cs o' p ++ seg cs (o' + p) q := by
    intro o' p q
    simp only [seg, List.take_add, List.drop_drop]
  conv => lhs; rw [show n = j + (1 + (n - (j + 1))) by omega]
  rw [split2, split2]
theorem erase_seg {cs : Array Value} {o n : Nat} (h : o + n ≤ cs.size) {j : Nat} (hj : j < n) : (seg cs o n).eraseIdx j = seg cs o j ++ seg cs (o + j + 1) (n - (j + 1)) := by
  rw [List.eraseIdx_eq_take_drop_succ]
  congr 1
  · simp only [seg, List.take_take]; rw [Nat.min_eq_left (by omega)]
  · simp only [seg, List.drop_take, List.drop_drop]; rw [Nat.add_assoc]

theorem do_fill (S : Sat own0 w0 st a w β col) {t n i : Nat} {x y : Operand} {u v : AV} {e : Nat} {k : Kind} {xs : List k.den} {st' : St} (ho : o.op = .store t x y)
    (hx : vrel st.heap β col w (.ptr n i 0) (a.eval x)) (hv : vrel st.heap β col w u (a.eval y)) (hct : P.cellsOf t = 1)
    (hr : getN st.heap n = some (.hol e k xs i)) (h : stFill n i e k xs u st = some (true, v, st')) :
    Does P own0 w0 o a w β col st v st' := by
  unfold stFill at h
  split at h
  case h_2 => cases h
  rename_i m s hm hs
  split at h
  case h_2 => cases h
  rename_i zs hz
  have hmn : m ≠ n := by
    cases hb : Nat.beq m n with
    | true => rw [hb] at h; cases h
    | false => exact fun e => by subst e; simp at hb
  rw [show Nat.beq m n = false from by cases hb : Nat.beq m n with
    | true => exact absurd (Nat.eq_of_beq_eq_true hb) hmn
    | false => rfl] at h
  obtain ⟨_, rfl, rfl⟩ := ok1_eq h
  -- the kind
  obtain ⟨e', k', hk, ys, hks, hys⟩ : ∃ (e' : Nat) (k' : Kind) (hk : k = .sl e' k') (ys : List k'.den), (e' = s.e ∧ flat k' = true ∧ rowK k' s = some ys) ∧ zs = xs.set i (hk ▸ ys) := by
    cases k with
    | sl e' k' =>
      simp only [putRow] at hz
      obtain ⟨h1, h2⟩ := cn_some hz
      simp only [Bool.and_eq_true] at h1
      split at h2
      · rename_i ys hy
        cases h2
        exact ⟨e', k', rfl, ys, ⟨Nat.eq_of_beq_eq_true h1.1, h1.2, hy⟩, rfl⟩
      · cases h2
    | _ => cases hz
  subst hk
  subst hys
  obtain ⟨he, hfk, hrk⟩ := hks
  obtain ⟨e4, rfl⟩ := rowK_ok hrk
  simp only at he
  subst he
  simp only at hz
  obtain ⟨⟨hrep, hblk⟩, ⟨s0, hs0⟩, A, l, q, hsl⟩ := head_rep S hm hs hfk hv
  simp only at hrep
  obtain ⟨r, b, h1, h2, h3, h4⟩ := hx
  rw [hr] at h1; cases h1
  obtain ⟨b', cs, fz, h0, k1, k2, k3, k4, k5, k6, k7, k8, k9⟩ := S.heap n _ hr
  rw [h2] at h0; cases h0
  have hsz1 : (Kind.sl e' k').sz = 1 := rfl
  simp only [rlen] at h4
  simp only [rsz, hsz1, Nat.mul_one, Nat.add_zero] at h3
  simp only [hsz1, Nat.mul_one] at k5 k8 k9
  have hrows : ∀ m' ∈ [m], ∃ s, rowsOf st.heap m' = some s := fun m' hm' => by rw [List.mem_singleton] at hm'; subst hm'; exact ⟨_, hs0⟩
  have hcells : (a.eval y).cells = #[a.eval y] := by rw [hsl]; rfl
  have hone : oneC (a.eval y) = true := by rw [hsl]; rfl
  obtain ⟨w', cs', r1, p1, e1, e2⟩ := run_storeAt (P := P) (t := t) (x := a.eval y) (off := b.o + i) (by rw [hcells, hct]; rfl) (by omega) k2 (by rw [hcells]; simp; omega) k4 (fun v' hv' => by rw [hcells] at hv'; simp at hv'; subst hv'; exact hone)
  rw [hcells] at e1
  simp only at e1
  have hS1 := S.kill m
  have hb_not : b.g ∉ mbl β [m] := fun h => by
    obtain ⟨m', hm', _, _, _, hcm⟩ := mbl_col S hrows h
    rw [k1] at hcm; cases hcm
    rw [List.mem_singleton] at hm'; exact hmn hm'.symm
  have hr1 : getN (kill m st).heap n = some (.hol e (.sl e' k') xs i) := by
    show getN (setN (forgetH m st.heap) m .dead) n = _
    rw [getN_set, if_neg (Ne.symm hmn), getN_forget, hr]; rfl
  let col' : Col := fun g => if g ∈ mbl β [m] then some (n, false) else col g
  have hcz : ∀ g, (col g = some (n, false) ∨ g ∈ mbl β [m]) → col' g = some (n, false) := fun g hg => by
    by_cases hm : g ∈ mbl β [m]
    · exact if_pos hm
    · show (if g ∈ mbl β [m] then _ else _) = _
      rw [if_neg hm]; exact hg.resolve_right hm
  have hfar : ∀ g, (col g = some (n, false) ∨ g ∈ mbl β [m]) → w'.heap[g]? = w.heap[g]? := fun g hg => by
    refine p1.far g ?_
    rintro rfl
    rcases hg with h | h
    · rw [k1] at h; cases h
    · exact hb_not h
  have hmono : ∀ {k' : Kind} {x' : k'.den} {vs : List Value}, rep w (fun g => inner col n g ∨ g ∈ mbl β [m]) k' x' vs → rep w' (inner col' n) k' x' vs := fun h =>
    rep_mono (fun g ob hg hob => ⟨hcz g hg, by rw [hfar g hg]; exact hob⟩) h
  have hmonoI : ∀ {k' : Kind} {vs : List Value}, inK w (fun g => inner col n g ∨ g ∈ mbl β [m]) k' vs → inK w' (inner col' n) k' vs := fun h =>
    inK_mono (fun g ob hg hob => ⟨hcz g hg, by rw [hfar g hg]; exact hob⟩) h
  have hmbl : ∀ b', β m = some b' → b'.g ∈ mbl β [m] := fun b' hb' => by simp [mbl, hb']
  refine ⟨undef, w', β, col', .inr ⟨?_, rfl⟩, ?_, trivial, fun q h => wrQ_not (by unfold wrOp; rw [ho]) (by unfold appE; rw [ho]) h⟩
  · unfold execOp
    rw [ho]
    refine run_skip (s := Instr.storeAt t (a.eval x) (a.eval y)) (r := ()) ?_
    rw [h3]; exact r1
  · refine hS1.write (r1 := .rows e (.sl e' k') (xs.set i ys)) (col' := col') hr1 (by simp) (fun g x hx => by
      show (if g ∈ mbl β [m] then _ else _) = _
      rw [if_neg (fun hm => by obtain ⟨m, hm1, _, _, _, hcm⟩ := mbl_col S hrows hm; rw [hx] at hcm; cases hcm; obtain ⟨s, hs⟩ := hrows 0 hm1; rw [rowsOf, S.zero] at hs; cases hs)]; exact hx) h2 k1 (by show (if _ then _ else _) = _; rw [if_neg hb_not]; exact k1) p1 ⟨rfl, rfl, by simp⟩ rfl (by simp [rlen]) ?_ (fun g hg => by
      by_cases hm : g ∈ mbl β [m]
      · obtain ⟨_, _, _, _, _, hcm⟩ := mbl_col S hrows hm; rw [hcm]; simp
      · have : col' g = col g := if_neg hm
        rw [this] at hg; exact hg) ?_ ?_ ?_ ?_
    · intro g hg
      show (if g ∈ mbl β [m] then _ else _) = _
      rw [if_neg (fun hm => by obtain ⟨_, _, _, _, _, hcm⟩ := mbl_col S hrows hm; rw [hg] at hcm; cases hcm)]; exact hg
    · intro g hg
      by_cases hm : g ∈ mbl β [m]
      · rw [show col' g = some (n, false) from if_pos hm] at hg; cases hg
      · have : col' g = col g := if_neg hm
        rw [this] at hg; exact hg
    · intro m' r hmn' hmr hmd g x' hgx
      show (if g ∈ mbl β [m] then _ else _) = _
      rw [if_neg]
      intro hm
      obtain ⟨m2, hm2, _, _, _, hcm⟩ := mbl_col S hrows hm
      rw [hgx] at hcm
      cases hcm
      rw [List.mem_singleton] at hm2
      subst hm2
      have := kill_dead (m := m') (n := m') (st := st) (.inr ⟨rfl, getN_lt (rowOf_get hs0)⟩)
      rw [hmr] at this
      cases this
      exact hmd rfl
    · intro t'
      exact .inr ⟨rfl, .inl fun e k xs h => by cases h⟩
    · intro keep
      have hcs : ∀ j, j ≠ i → cs'[b.o + j]? = cs[b.o + j]? := fun j hj => by
        rw [← Array.getElem?_toList, ← Array.getElem?_toList, e1]
        unfold setAt
        by_cases hlt : j < i
        · rw [List.append_assoc, List.getElem?_append_left (by simp; omega), List.getElem?_take, if_pos (by omega)]
        · rw [List.getElem?_append_right (by simp; omega), List.getElem?_drop]
          simp only [List.length_append, List.length_take, List.length_cons, List.length_nil]
          congr 1
          simp; omega
      have hci : cs'[b.o + i]? = some (a.eval y) := by
        rw [← Array.getElem?_toList, e1]
        unfold setAt
        rw [List.append_assoc, List.getElem?_append_right (by rw [List.length_take]; exact Nat.min_le_left _ _)]
        simp only [List.length_take]
        rw [Nat.min_eq_left (by simp; omega), Nat.sub_self]
        rfl
      have hs1 : ∀ (ds : Array Value) j, seg ds (b.o + j) 1 = (ds[b.o + j]?).toList := fun ds j => by
        unfold seg
        rw [← Array.getElem?_toList]
        cases hd : ds.toList.drop (b.o + j) with
        | nil =>
          have : ds.toList.length ≤ b.o + j := List.drop_eq_nil_iff.1 hd
          rw [List.getElem?_eq_none this]; rfl
        | cons z l =>
          have : ds.toList[b.o + j]? = some z := by
            have e := List.getElem?_drop (xs := ds.toList) (i := b.o + j) (j := 0)
            rw [hd] at e
            simpa using e.symm
          rw [this]; rfl
      have hsegs : ∀ i', i' ≠ i → seg cs' (b.o + i') 1 = seg cs (b.o + i') 1 := fun i' hii => by rw [hs1, hs1, hcs i' hii]
      have hsegi : seg cs' (b.o + i) 1 = [a.eval y] := by rw [hs1, hci]; rfl
      obtain ⟨hrepY, hcapY⟩ := hrep (fun g => g ∈ mbl β [m]) hmbl
      unfold rootRel
      rw [h2]
      refine ⟨cs', fz, by show (if _ then _ else _) = _; rw [if_neg hb_not]; exact k1, p1.here, by rw [e2]; exact k3, by rw [e2]; exact k4, by rw [e2, hsz1]; simpa using k5, fun i' hi' => ?_, .inr ⟨?_, fun i' hi' => ?_⟩⟩
      · simp only [List.length_set] at hi'
        rw [hsz1, Nat.mul_one]
        by_cases hii : i' = i
        · subst hii
          rw [List.getElem_set_self, hsegi]
          exact hmono (rep_mono (fun g ob hg hob => ⟨.inr hg, hob⟩) hrepY)
        · rw [List.getElem_set_ne (Ne.symm hii), hsegs i' hii]
          exact hmono (rep_mono (fun g ob hg hob => ⟨.inl hg, hob⟩) (k8 i' hi' hii).1)
      · rw [List.length_set, hsz1, Nat.mul_one]
        have hall : ∀ g, g ∈ ((seg cs b.o xs.length).eraseIdx i).filterMap blk → col g = some (n, false) := fun g hg => by
          obtain ⟨u, hu, hub⟩ := List.mem_filterMap.1 hg
          obtain ⟨j, hj⟩ := List.mem_iff_getElem?.1 hu
          rw [List.getElem?_eraseIdx] at hj
          have key : ∀ j', j' ≠ i → (seg cs b.o xs.length)[j']? = some u → col g = some (n, false) := fun j' hji hj' => by
            have hjl : j' < xs.length := by
              have := (List.getElem?_eq_some_iff.1 hj').1
              simp [seg] at this; omega
            have hk := k8 j' hjl hji
            refine rep_blk hk.1 hk.2 g (List.mem_filterMap.2 ⟨u, ?_, hub⟩)
            rw [seg_get hjl] at hj'
            rw [hs1, hj']; simp
          split at hj
          · exact key j (by omega) hj
          · exact key (j + 1) (by omega) hj
        rw [erase_seg (by omega) k6] at k9 hall
        rw [seg_one (by omega) k6, hsegi]
        have hpre : seg cs' b.o i = seg cs b.o i := by
          unfold seg
          rw [e1]
          exact seg_setAt (by simp; omega) (.inr (by omega))
        have hpost : seg cs' (b.o + i + 1) (xs.length - (i + 1)) = seg cs (b.o + i + 1) (xs.length - (i + 1)) := by
          unfold seg
          rw [e1]
          exact seg_setAt (by simp; omega) (.inl (by simp))
        rw [hpre, hpost]
        simp only [List.filterMap_append] at k9 hall ⊢
        cases hby : blk (a.eval y) with
        | none => simpa [hby] using k9
        | some g =>
          have hgm : g ∈ mbl β [m] := by
            rcases hblk with h | h
            · rw [hby] at h; cases h
            · rw [← h, hby]; simp
          have hgc : col g ≠ some (n, false) := by
            obtain ⟨_, _, _, _, _, hcm⟩ := mbl_col S hrows hgm
            rw [hcm]; simp
          have e3 : ([a.eval y] : List Value).filterMap blk = [g] := by simp [hby]
          rw [e3]
          generalize (seg cs b.o i).filterMap blk = A1 at k9 hall ⊢
          generalize (seg cs (b.o + i + 1) (xs.length - (i + 1))).filterMap blk = B1 at k9 hall ⊢
          rw [List.nodup_append] at k9
          obtain ⟨n1, n2, n3⟩ := k9
          refine List.nodup_append.2 ⟨n1, List.nodup_append.2 ⟨List.nodup_cons.2 ⟨by simp, List.nodup_nil⟩, n2, fun x hx y' hy e' => ?_⟩, fun x hx y' hy e' => ?_⟩
          · rw [List.mem_singleton] at hx; subst hx; subst e'; exact hgc (hall _ (by simp [hy]))
          · subst e'
            rcases List.mem_append.1 hy with h | h
            · rw [List.mem_singleton] at h; subst h; exact hgc (hall _ (by simp [hx]))
            · exact n3 x hx x h rfl
      · simp only [List.length_set] at hi'
        rw [hsz1, Nat.mul_one]
        by_cases hii : i' = i
        · subst hii
          rw [hsegi]
          refine hmonoI (k' := .sl e' k') fun v' hv' => ?_
          rw [List.mem_singleton] at hv'; subst hv'
          exact capP_mono (fun g ob hg hob => ⟨.inr hg, hob⟩) hcapY
        · rw [hsegs i' hii]
          exact hmonoI (inK_mono (fun g ob hg hob => ⟨.inl hg, hob⟩) (k8 i' hi' hii).2)
end
end Go.Proofs.YtlkbmcmglkdciaaE
