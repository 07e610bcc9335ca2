/- Stores, into boxes and into rows. No condition. -/
import Derived.Test.YtlkbmcmglkdciaaE12
set_option linter.unusedVariables false
set_option linter.unusedSectionVars false
set_option linter.unusedSimpArgs false
namespace Go.Proofs.YtlkbmcmglkdciaaE
open Go Go.RowKit

section
variable {own0 : Own} {w0 : World} {st : St} {a : Act} {w : World} {β : Bs} {col : Col} {P : Program} {o : Oper}

theorem cellsK_ok {h : List Root} {Z : Nat → Prop} : ∀ {k : Kind} {x : k.den} {vs : List Value}, rep w Z k x vs → inK w Z k vs → (cellsK k x).length = k.sz ∧ ∀ j v c, (cellsK k x)[j]? = some v → vs[j]? = some c →
    (v = .undef → ∀ e' k' xs, subAt k x j = some (.row e' k' xs) → rep w Z (.sl e' k') xs [c] ∧ capP w Z e' k'.sz c) ∧ (v ≠ .undef → vrel h β col w v c)
  | .int _, x, vs, hr, _ => by
    rw [show _ = _ from hr]
    refine ⟨rfl, fun j v c h1 h2 => ?_⟩
    cases j with
    | zero => simp [cellsK] at h1 h2; subst h1; subst h2; exact ⟨fun h => by simp at h, fun _ => rfl⟩
    | succ j => simp [cellsK] at h1
  | .bool, x, vs, hr, _ => by
    rw [show _ = _ from hr]
    refine ⟨rfl, fun j v c h1 h2 => ?_⟩
    cases j with
    | zero => simp [cellsK] at h1 h2; subst h1; subst h2; exact ⟨fun h => by simp at h, fun _ => rfl⟩
    | succ j => simp [cellsK] at h1
  | .str, x, vs, hr, _ => by
    rw [show _ = _ from hr]
    refine ⟨rfl, fun j v c h1 h2 => ?_⟩
    cases j with
    | zero => simp [cellsK] at h1 h2; subst h1; subst h2; exact ⟨fun h => by simp at h, fun _ => rfl⟩
    | succ j => simp [cellsK] at h1
  | .pair p q, x, vs, hr, hi => by
    obtain ⟨u, v, rfl, r1, r2⟩ := hr
    have lu := rep_len r1
    obtain ⟨i1, i2⟩ := hi
    rw [List.take_left' lu] at i1
    rw [List.drop_left' lu] at i2
    obtain ⟨l1, c1⟩ := cellsK_ok (h := h) r1 i1
    obtain ⟨l2, c2⟩ := cellsK_ok (h := h) r2 i2
    refine ⟨by simp [cellsK, l1, l2, Kind.sz], fun j y c h1 h2 => ?_⟩
    simp only [cellsK] at h1
    by_cases hj : j < p.sz
    · rw [List.getElem?_append_left (by omega)] at h1 h2
      have := c1 j y c h1 h2
      refine ⟨fun e e' k' xs hs => this.1 e e' k' xs ?_, this.2⟩
      simpa [subAt, cn, blt_true hj] using hs
    · rw [List.getElem?_append_right (by omega)] at h1 h2
      rw [l1] at h1; rw [lu] at h2
      have := c2 (j - p.sz) y c h1 h2
      refine ⟨fun e e' k' xs hs => this.1 e e' k' xs ?_, this.2⟩
      simpa [subAt, cn, blt_false (show p.sz ≤ j by omega)] using hs
  | .sl e k, x, vs, hr, hi => by
    have hr0 := hr
    obtain ⟨A, c, rfl, _⟩ := hr
    refine ⟨rfl, fun j v c h1 h2 => ?_⟩
    cases j with
    | zero =>
      simp [cellsK] at h1 h2; subst h1; subst h2
      refine ⟨fun _ e' k' xs hs => ?_, fun h => absurd rfl h⟩
      simp only [subAt, Option.some.injEq] at hs
      cases hs
      exact ⟨hr0, hi _ List.mem_cons_self⟩
    | succ j => simp [cellsK] at h1

theorem denAt_rows {h : List Root} : ∀ {k : Kind} {x : k.den} {vs : List AV} {y : k.den} {ms : List Nat}, denAt h k x vs = some (y, ms) → ∀ m ∈ ms, ∃ s, rowsOf h m = some s := by
  intro k
  induction k with
  | pair p q ihp ihq =>
    intro x vs y ms hd m hm
    simp only [denAt] at hd
    split at hd
    · rename_i y1 l1 h1
      split at hd
      · rename_i z l2 h2
        cases hd
        rcases List.mem_append.1 hm with hm | hm
        · exact ihp h1 m hm
        · exact ihq h2 m hm
      · cases hd
    · cases hd
  | sl e k ih =>
    intro x vs y ms hd m hm
    cases vs with
    | nil => simp [denAt] at hd
    | cons v l => cases l with
      | cons v2 l => cases v <;> simp [denAt] at hd
      | nil =>
        cases v <;> simp only [denAt] at hd <;> first | (cases hd; done) | skip
        · cases hd; cases hm
        · obtain ⟨h1, h2⟩ := cn_some hd; cases h2; cases hm
        · split at hd
          · rename_i s hs
            obtain ⟨h1, h2⟩ := cn_some hd
            split at h2
            · cases h2
              rcases List.mem_cons.1 hm with rfl | hm
              · exact ⟨s, hs⟩
              · cases hm
            · cases h2
          · cases hd
  | _ =>
    intro x vs y ms hd m hm
    cases vs with
    | nil => simp [denAt] at hd
    | cons v l => cases l with
      | cons v2 l => cases v <;> simp [denAt] at hd
      | nil =>
        cases v <;> simp only [denAt] at hd <;> first | (cases hd; done) | skip
        first
        | (cases hd; cases hm; done)
        | (have hd' := (cn_some hd).2; cases hd'; cases hm)

theorem mbl_col (S : Sat own0 w0 st a w β col) {ms : List Nat} (hr : ∀ m ∈ ms, ∃ s, rowsOf st.heap m = some s) {g : Nat} (hg : g ∈ mbl β ms) : ∃ m ∈ ms, ∃ b, β m = some b ∧ b.g = g ∧ col g = some (m, true) := by
  obtain ⟨m, hm, h1⟩ := List.mem_filterMap.1 hg
  cases hb : β m with
  | none => rw [hb] at h1; cases h1
  | some b =>
    rw [hb] at h1
    simp at h1
    obtain ⟨s, hs⟩ := hr m hm
    have hR := rowRel S hs
    unfold rootRel at hR
    rw [hb] at hR
    obtain ⟨cs, fz, k1, _⟩ := hR
    exact ⟨m, hm, b, hb, h1, h1 ▸ k1⟩
theorem mbl_nodup (S : Sat own0 w0 st a w β col) : ∀ {ms : List Nat}, (∀ m ∈ ms, ∃ s, rowsOf st.heap m = some s) → ms.Nodup → (mbl β ms).Nodup
  | [], _, _ => List.nodup_nil
  | m :: ms, hr, hn => by
    have ih := mbl_nodup S (fun m hm => hr m (List.mem_cons_of_mem _ hm)) (List.nodup_cons.1 hn).2
    have e : mbl β (m :: ms) = mbl β [m] ++ mbl β ms := mbl_append β [m] ms
    rw [e]
    refine List.nodup_append.2 ⟨?_, ih, fun x hx y hy hxy => ?_⟩
    · simp only [mbl, List.filterMap_cons, List.filterMap_nil]
      cases β m <;> simp
    · subst hxy
      obtain ⟨m1, hm1, b1, _, _, c1⟩ := mbl_col S (ms := [m]) (fun m' hm' => hr m' (by simp at hm'; simp [hm'])) hx
      obtain ⟨m2, hm2, b2, _, _, c2⟩ := mbl_col S (fun m' hm' => hr m' (List.mem_cons_of_mem _ hm')) hy
      rw [c1] at c2
      cases c2
      simp at hm1
      subst hm1
      exact (List.nodup_cons.1 hn).1 hm2

theorem run_storeAt {t : Nat} {x : Value} {g off : Nat} {cs : Array Value} {e : Nat} {fz : Nat × Nat} (hsz : x.cells.size = P.cellsOf t) (hpos : 0 < P.cellsOf t) (h : w.heap[g]? = some (.cells cs e fz)) (hl : off + x.cells.size ≤ cs.size)
    (hf : unfrozen cs.size fz) (h1 : ∀ v ∈ x.cells.toList, oneC v = true) :
    ∃ w' cs', (Instr.storeAt t (.pointer (some ⟨g, off, none⟩)) x).run P w = .ok () w' ∧ PutW w w' g (.cells cs' e fz) ∧ cs'.toList = setAt cs.toList off x.cells.toList ∧ cs'.size = cs.size := by
  obtain ⟨w', cs', r1, p1, e1, e2⟩ := run_storeCells (P := P) x.cells.toList 0 h (o := off) (by simpa using hl) hf h1
  refine ⟨w', cs', ?_, p1, by simpa using e1, e2⟩
  unfold Instr.storeAt
  simp only [Instr.sureAddr, pure_bind]
  unfold storeVar
  rw [run_size hpos, if_neg (by omega)]
  exact r1
theorem cells_all_one {l : List AV} {vs : List Value} {h : List Root} (hc : l.all cellOk1 = true) (hv : vrels h β col w l vs) : ∀ v ∈ vs, oneC v = true := by
  induction l generalizing vs with
  | nil => cases vs with
    | nil => intro v hv; cases hv
    | cons _ _ => exact hv.elim
  | cons x l ih => cases vs with
    | nil => exact hv.elim
    | cons y vs =>
      simp only [List.all_cons, Bool.and_eq_true] at hc
      intro v hm
      rcases List.mem_cons.1 hm with rfl | hm
      · exact vrel_one hc.1 hv.1
      · exact ih hc.2 hv.2 v hm

theorem do_storeBox (S : Sat own0 w0 st a w β col) {t n i c : Nat} {x y : Operand} {v : AV} {bt : Nat} {ws : List AV} (ho : o.op = .store t x y)
    (hx : vrel st.heap β col w (.ptr n i c) (a.eval x)) (hv : vrel st.heap β col w v (a.eval y)) (hc : v.cells.all cellOk1 = true) (hlen : v.cells.length = P.cellsOf t) (hpos : 1 ≤ v.cells.length)
    (hr : getN st.heap n = some (.box bt ws)) (hin : c + v.cells.length ≤ ws.length) :
    Does P own0 w0 o a w β col st .undef { st with heap := setN st.heap n (.box bt (splice ws c v.cells)) } := by
  obtain ⟨r, b, h1, h2, h3, h4⟩ := hx
  rw [hr] at h1; cases h1
  obtain ⟨b', cs, k1, k2, k3, k4, k5, k6⟩ := S.heap n _ hr
  rw [h2] at k1; cases k1
  have hi : i = 0 := by simp [rlen] at h4; exact h4
  subst hi
  have hcs := cells_of hv hc
  have hl1 := vrels_len hcs
  have hl2 := vrels_len k5
  have ha : a.eval x = .pointer (some ⟨b.g, c, none⟩) := by rw [h3]; simp [k2]
  obtain ⟨w', cs', r1, p1, e1, e2⟩ := run_storeAt (P := P) (t := t) (x := a.eval y) (off := c) (by simp at hl1; omega) (by omega) k4 (by simp at hl1 hl2; omega) (fun j _ h => by simp at h) (cells_all_one hc hcs)
  have hsp : splice ws c v.cells = ws.take c ++ v.cells ++ ws.drop (c + v.cells.length) := by simp [splice, takeN_eq, dropN_eq, lenN_eq]
  have hok : (splice ws c v.cells).all cellOk = true := by
    rw [hsp]
    simp only [List.all_append, Bool.and_eq_true]
    have hc' := cellOk_of hc
    rw [List.all_eq_true] at k6 hc'
    refine ⟨⟨?_, ?_⟩, ?_⟩ <;> rw [List.all_eq_true] <;> intro z hz
    · exact k6 z (List.mem_of_mem_take hz)
    · exact hc' z hz
    · exact k6 z (List.mem_of_mem_drop hz)
  have hrel : vrels st.heap β col w (splice ws c v.cells) cs'.toList := by
    rw [hsp, e1]
    unfold setAt
    rw [← hl1]
    exact vrels_append (vrels_append (vrels_take _ k5) hcs) (vrels_drop _ k5)
  refine ⟨undef, w', β, col, .inr ⟨?_, rfl⟩, ?_, trivial, fun q h => wrQ_not (by unfold wrOp; rw [ho]) (by unfold appE; rw [ho]) h⟩
  · unfold execOp
    rw [ho]
    refine run_skip (s := Instr.storeAt t (a.eval x) (a.eval y)) (r := ()) ?_
    rw [ha]; exact r1
  · refine S.write (r1 := .box bt (splice ws c v.cells)) hr (by simp) (fun g x h => h) h2 k3 k3 p1 ⟨rfl, by rw [hsp]; simp; omega⟩ ?_ rfl (fun g h => h) (fun g h => h) (fun g h => h) (fun m r _ _ _ g x _ => rfl) (fun t => .inr ⟨rfl, .inl fun e k xs h => by cases h⟩) (fun keep => ?_)
    · simp only [rsz]; rw [hsp]; simp; omega
    · exact ⟨b, cs', h2, k2, k3, p1.here, keep _ _ hok hrel, hok⟩

theorem kills_box {n : Nat} (S : Sat own0 w0 st a w β col) {ms : List Nat} {s : Sl} (hn : n ∉ ms) (hs : rowsOf st.heap n = some s) : getN (kills ms st).heap n = some (.rows s.e s.k s.xs) := rowOf_get (kills_get hn hs)

theorem seg_blk_mem {cs : Array Value} {o s : Nat} {g : Nat} (hg : g ∈ (seg cs o s).filterMap blk) : ∃ j v, j < s ∧ cs[o + j]? = some v ∧ blk v = some g := by
  obtain ⟨v, hv, hb⟩ := List.mem_filterMap.1 hg
  obtain ⟨j, hj⟩ := List.mem_iff_getElem?.1 hv
  have hjs : j < s := by
    have := (List.getElem?_eq_some_iff.1 hj).1
    simp [seg] at this; omega
  exact ⟨j, v, hjs, by rw [seg_get hjs] at hj; exact hj, hb⟩

/-- The blocks of a row's cells are of the root's inner colour. -/
theorem rows_inner {n : Nat} {k : Kind} {xs : List k.den} {cs : Array Value} {o : Nat} (hel : ∀ i, ∀ h : i < xs.length, rep w (inner col n) k xs[i] (seg cs (o + i * k.sz) k.sz)) (hin : ∀ i, i < xs.length → inK w (inner col n) k (seg cs (o + i * k.sz) k.sz)) {g : Nat}
    (hg : g ∈ (seg cs o (xs.length * k.sz)).filterMap blk) : col g = some (n, false) := by
  obtain ⟨j, v, hj, hv, hb⟩ := seg_blk_mem hg
  have hpos := sz_pos k
  have hi : j / k.sz < xs.length := Nat.div_lt_of_lt_mul (by rw [Nat.mul_comm]; exact hj)
  have := rep_blk (hel _ hi) (hin _ hi) g ?_
  · exact this
  · rw [List.mem_filterMap]
    refine ⟨v, ?_, hb⟩
    rw [List.mem_iff_getElem?]
    refine ⟨j % k.sz, ?_⟩
    rw [seg_get (Nat.mod_lt _ hpos), ← hv]
    congr 1
    have := Nat.div_add_mod j k.sz
    rw [Nat.mul_comm] at this
    omega

theorem do_storeRow (S : Sat own0 w0 st a w β col) {t n i c : Nat} {x y : Operand} {v : AV} {e : Nat} {k : Kind} {xs : List k.den} {z : k.den} {ms : List Nat} (ho : o.op = .store t x y)
    (hx : vrel st.heap β col w (.ptr n i c) (a.eval x)) (hv : vrel st.heap β col w v (a.eval y)) (hc : v.cells.all cellOk1 = true) (hlen : v.cells.length = P.cellsOf t) (hpos : 1 ≤ v.cells.length)
    (hr : getN st.heap n = some (.rows e k xs)) (hin : c + v.cells.length ≤ k.sz) (hn : n ∉ ms) (hnd : ms.Nodup)
    (hden : denAt st.heap k (getAt k.dflt xs i) (splice (cellsK k (getAt k.dflt xs i)) c v.cells) = some (z, ms)) :
    Does P own0 w0 o a w β col st .undef { kills ms st with env := cn (flat k) (kills ms st).env (forgetS n (kills ms st).env), heap := setN (kills ms st).heap n (.rows e k (xs.set i z)) } := by
  obtain ⟨r, b, h1, h2, h3, h4⟩ := hx
  rw [hr] at h1; cases h1
  have hR := S.heap n _ hr
  unfold rootRel at hR
  rw [h2] at hR
  obtain ⟨cs, fz, k1, k2, k3, k4, k5, k6, k7⟩ := hR
  simp only [rlen] at h4
  simp only [rsz] at h3
  have hcs := cells_of hv hc
  have hl1 := vrels_len hcs
  have hg : getAt k.dflt xs i = xs[i] := by simp [getAt, h4]
  rw [hg] at hden
  have hle : b.o + i * k.sz + k.sz ≤ cs.size := by
    have : (i + 1) * k.sz ≤ xs.length * k.sz := Nat.mul_le_mul_right _ h4
    rw [Nat.add_mul] at this; omega
  have ha : a.eval x = .pointer (some ⟨b.g, b.o + i * k.sz + c, none⟩) := h3
  obtain ⟨w', cs', r1, p1, e1, e2⟩ := run_storeAt (P := P) (t := t) (x := a.eval y) (off := b.o + i * k.sz + c) (by simp at hl1; omega) (by omega) k2 (by simp at hl1; omega) k4 (cells_all_one hc hcs)
  have hxl : (a.eval y).cells.toList.length = v.cells.length := hl1.symm
  have hxs : (a.eval y).cells.size = v.cells.length := by simpa using hxl
  -- the element's cells
  have hold := k6 i h4
  have hnew : seg cs' (b.o + i * k.sz) k.sz = setAt (seg cs (b.o + i * k.sz) k.sz) c (a.eval y).cells.toList := by
    unfold seg
    rw [e1, seg_setIn (by omega) (by omega) (by simp; omega)]
    congr 1; omega
  have k8 : ∀ i, i < xs.length → inK w (inner col n) k (seg cs (b.o + i * k.sz) k.sz) := fun i hi => by
    rcases k7 with h | h
    · exact inK_flat h
    · exact h.2 i hi
  obtain ⟨lK, cK⟩ := cellsK_ok (h := st.heap) (β := β) (col := col) hold (k8 i h4)
  have lold : (seg cs (b.o + i * k.sz) k.sz).length = k.sz := seg_len hle
  have hsp : splice (cellsK k xs[i]) c v.cells = (cellsK k xs[i]).take c ++ v.cells ++ (cellsK k xs[i]).drop (c + v.cells.length) := by simp [splice, takeN_eq, dropN_eq, lenN_eq]
  have hrows := denAt_rows hden
  have hD := denAt_ok S (Z0 := inner col n) hden (cs := seg cs' (b.o + i * k.sz) k.sz) (by rw [hsp, hnew, setAt_len (by omega)]; simp [lK, lold]; omega) (fun j u q hu hq => by
    rw [hsp] at hu
    rw [hnew] at hq
    unfold setAt at hq
    by_cases hj1 : j < c
    · rw [List.append_assoc, List.getElem?_append_left (by simp; omega), List.getElem?_take, if_pos hj1] at hu hq
      exact cK j u q hu hq
    · by_cases hj2 : j < c + v.cells.length
      · rw [List.getElem?_append_left (by simp; omega), List.getElem?_append_right (by simp; omega)] at hu hq
        simp only [List.length_take] at hu hq
        rw [Nat.min_eq_left (by omega)] at hu hq
        obtain ⟨q', hq', hrel⟩ := vrels_get hcs hu
        rw [hq] at hq'; cases hq'
        have hu' : cellOk1 u = true := by
          rw [List.all_eq_true] at hc
          exact hc u (List.mem_of_getElem? hu)
        exact ⟨fun h => (by subst h; cases hu'), fun _ => hrel⟩
      · rw [List.getElem?_append_right (by simp; omega), List.getElem?_drop] at hu hq
        simp only [List.length_append, List.length_take] at hu hq
        rw [Nat.min_eq_left (by omega)] at hu hq
        rw [show c + v.cells.length + (j - (c + v.cells.length)) = j by omega] at hu
        rw [hxl, show c + v.cells.length + (j - (c + v.cells.length)) = j by omega] at hq
        exact cK j u q hu hq)
  obtain ⟨⟨hrep, hink⟩, l, hsub, hperm⟩ := hD
  have hS1 := S.kills ms
  have hb_not : b.g ∉ mbl β ms := fun h => by
    obtain ⟨m, hm, _, _, _, hcm⟩ := mbl_col S hrows h
    rw [k1] at hcm; cases hcm; exact hn hm
  have hr1 : getN (kills ms st).heap n = some (.rows e k xs) := kills_box S hn (rowOf_of hr)
  let col' : Col := fun g => if g ∈ mbl β ms then some (n, false) else col g
  have hcz : ∀ g, (col g = some (n, false) ∨ g ∈ mbl β ms) → col' g = some (n, false) := fun g hg => by
    by_cases hm : g ∈ mbl β ms
    · exact if_pos hm
    · show (if g ∈ mbl β ms then _ else _) = _
      rw [if_neg hm]; exact hg.resolve_right hm
  have hfar : ∀ g, (col g = some (n, false) ∨ g ∈ mbl β ms) → w'.heap[g]? = w.heap[g]? := fun g hg => by
    refine p1.far g ?_
    rintro rfl
    rcases hg with h | h
    · rw [k1] at h; cases h
    · exact hb_not h
  have hmono : ∀ {k' : Kind} {x' : k'.den} {vs : List Value}, rep w (fun g => inner col n g ∨ g ∈ mbl β ms) k' x' vs → rep w' (inner col' n) k' x' vs := fun h =>
    rep_mono (fun g ob hg hob => ⟨hcz g hg, by rw [hfar g hg]; exact hob⟩) h
  have hmonoI : ∀ {k' : Kind} {vs : List Value}, inK w (fun g => inner col n g ∨ g ∈ mbl β ms) k' vs → inK w' (inner col' n) k' vs := fun h =>
    inK_mono (fun g ob hg hob => ⟨hcz g hg, by rw [hfar g hg]; exact hob⟩) h
  refine ⟨undef, w', β, col', .inr ⟨?_, rfl⟩, ?_, trivial, fun q h => wrQ_not (by unfold wrOp; rw [ho]) (by unfold appE; rw [ho]) h⟩
  · unfold execOp
    rw [ho]
    refine run_skip (s := Instr.storeAt t (a.eval x) (a.eval y)) (r := ()) ?_
    rw [ha]; exact r1
  · refine hS1.write (r1 := .rows e k (xs.set i z)) (col' := col') hr1 (by simp) (fun g x hx => by
      show (if g ∈ mbl β ms then _ else _) = _
      rw [if_neg (fun hm => by obtain ⟨m, hm1, _, _, _, hcm⟩ := mbl_col S hrows hm; rw [hx] at hcm; cases hcm; obtain ⟨s, hs⟩ := hrows 0 hm1; rw [rowsOf, S.zero] at hs; cases hs)]; exact hx) h2 k1 (by show (if _ then _ else _) = _; rw [if_neg hb_not]; exact k1) p1 ⟨rfl, rfl, by simp⟩ rfl (by simp [rlen]) ?_ ?_ (fun g hg => by
      by_cases hm : g ∈ mbl β ms
      · have : col' g = some (n, false) := if_pos hm
        rw [this] at hg; cases hg
      · have : col' g = col g := if_neg hm
        rw [this] at hg; exact hg) ?_ ?_ ?_
    · intro g hg
      show (if g ∈ mbl β ms then _ else _) = _
      rw [if_neg (fun hm => by obtain ⟨_, _, _, _, _, hcm⟩ := mbl_col S hrows hm; rw [hg] at hcm; cases hcm)]; exact hg
    · intro g hg hg0
      refine hg ?_
      show (if g ∈ mbl β ms then _ else _) = _
      rw [if_neg (fun hm => by obtain ⟨_, _, _, _, _, hcm⟩ := mbl_col S hrows hm; rw [hg0] at hcm; cases hcm)]; exact hg0
    · intro m r hmn hmr hmd g x' hgx
      show (if g ∈ mbl β ms then _ else _) = _
      rw [if_neg]
      intro hm
      obtain ⟨m', hm', _, _, _, hcm⟩ := mbl_col S hrows hm
      rw [hgx] at hcm
      cases hcm
      obtain ⟨s, hs⟩ := hrows m hm'
      have := kills_dead (ms := ms) (st := st) (.inr ⟨hm', getN_lt (rowOf_get hs)⟩)
      rw [hmr] at this
      cases this
      exact hmd rfl
    · intro t'
      cases hf : flat k with
      | true => exact .inr ⟨rfl, .inl fun e' k' xs' h => by cases h; exact hf⟩
      | false =>
        show lk (forgetS n (kills ms st).env) t' = _ ∨ _
        rw [lk_forgetS]
        rcases forgetS1_or n (lk (kills ms st).env t') with h | ⟨h1, h2⟩
        · exact .inl h
        · refine .inr ⟨?_, .inr h2⟩
          show lk (forgetS n (kills ms st).env) t' = _
          rw [lk_forgetS]; exact h1
    · intro keep
      have hsegs : ∀ i', i' ≠ i → seg cs' (b.o + i' * k.sz) k.sz = seg cs (b.o + i' * k.sz) k.sz := fun i' hii => by
        unfold seg
        rw [e1]
        refine seg_setAt (by simp; omega) ?_
        rcases Nat.lt_or_ge i' i with h | h
        · right
          have : (i' + 1) * k.sz ≤ i * k.sz := Nat.mul_le_mul_right _ h
          rw [Nat.add_mul] at this; omega
        · left
          have : (i + 1) * k.sz ≤ i' * k.sz := Nat.mul_le_mul_right _ (by omega)
          rw [Nat.add_mul] at this; omega
      unfold rootRel
      rw [h2]
      refine ⟨cs', fz, by show (if _ then _ else _) = _; rw [if_neg hb_not]; exact k1, p1.here, by rw [e2]; exact k3, by rw [e2]; exact k4, by rw [e2]; simpa using k5, fun i' hi' => ?_, ?_⟩
      · simp only [List.length_set] at hi'
        by_cases hii : i' = i
        · subst hii
          rw [List.getElem_set_self]
          exact hmono hrep
        · rw [List.getElem_set_ne (Ne.symm hii), hsegs i' hii]
          exact hmono (rep_mono (fun g ob hg hob => ⟨.inl hg, hob⟩) (k6 i' hi'))
      · rcases k7 with hf | ⟨hnod, _⟩
        · exact .inl hf
        · right
          rw [List.length_set]
          refine ⟨?_, fun i' hi' => ?_⟩
          case refine_2 =>
            by_cases hii : i' = i
            · subst hii; exact hmonoI hink
            · rw [hsegs i' hii]
              exact hmonoI (inK_mono (fun g ob hg hob => ⟨.inl hg, hob⟩) (k8 i' hi'))
          -- the window in three parts
          have hpart : ∀ (ds : Array Value), seg ds b.o (xs.length * k.sz) = seg ds b.o (i * k.sz) ++ (seg ds (b.o + i * k.sz) k.sz ++ seg ds (b.o + (i + 1) * k.sz) ((xs.length - (i + 1)) * k.sz)) := by
            intro ds
            have split2 : ∀ (o' p q : Nat), seg ds o' (p + q) = seg ds o' p ++ seg ds (o' + p) q := by
              intro o' p q
              simp only [seg, List.take_add, List.drop_drop]
            have e3 : xs.length * k.sz = i * k.sz + (k.sz + (xs.length - (i + 1)) * k.sz) := by
              have : xs.length = i + (1 + (xs.length - (i + 1))) := by omega
              conv => lhs; rw [this]
              simp [Nat.add_mul]
            rw [e3, split2, split2]
            congr 3
            rw [Nat.add_mul]; omega
          have hpre : seg cs' b.o (i * k.sz) = seg cs b.o (i * k.sz) := by
            unfold seg
            rw [e1]
            exact seg_setAt (by simp; omega) (.inr (by omega))
          have hpost : seg cs' (b.o + (i + 1) * k.sz) ((xs.length - (i + 1)) * k.sz) = seg cs (b.o + (i + 1) * k.sz) ((xs.length - (i + 1)) * k.sz) := by
            unfold seg
            rw [e1]
            exact seg_setAt (by simp; omega) (.inl (by rw [Nat.add_mul]; omega))
          rw [hpart, hpre, hpost]
          have hall : ∀ g, g ∈ (seg cs b.o (xs.length * k.sz)).filterMap blk → col g = some (n, false) := fun g hg => rows_inner (w := w) (col := col) k6 k8 hg
          rw [hpart] at hnod hall
          simp only [List.filterMap_append] at hnod ⊢ hall
          -- what is kept of the old element
          have hkept : (kept (splice (cellsK k xs[i]) c v.cells) (seg cs' (b.o + i * k.sz) k.sz)).Sublist ((seg cs (b.o + i * k.sz) k.sz).filterMap blk) := by
            rw [hsp, hnew]
            unfold setAt
            rw [kept_append (by simp; omega), kept_append (by simp; omega)]
            have none : ∀ {l : List AV} {vs : List Value}, l.all cellOk1 = true → kept l vs = [] := by
              intro l
              induction l with
              | nil => intro vs _; rfl
              | cons q l ih =>
                intro vs h
                simp only [List.all_cons, Bool.and_eq_true] at h
                cases vs with
                | nil => rfl
                | cons u vs =>
                  simp only [kept, ih h.2]
                  cases q <;> first | rfl | (cases h.1; done)
            have sub : ∀ (l : List AV) (vs : List Value), (kept l vs).Sublist (vs.filterMap blk) := by
              intro l
              induction l with
              | nil => intro vs; exact List.nil_sublist _
              | cons q l ih =>
                intro vs
                cases vs with
                | nil => exact List.Sublist.refl _
                | cons u vs =>
                  simp only [kept, List.filterMap_cons]
                  cases hq : blk u with
                  | none =>
                    simp only
                    cases q <;> simpa [hq] using ih vs
                  | some g' =>
                    simp only
                    cases q <;> first
                      | (simpa [hq] using (ih vs).cons_cons g')
                      | (simpa using (ih vs).cons g')
            rw [none hc, List.append_nil]
            have e4 : (seg cs (b.o + i * k.sz) k.sz).filterMap blk = ((seg cs (b.o + i * k.sz) k.sz).take c).filterMap blk ++ ((seg cs (b.o + i * k.sz) k.sz).drop c).filterMap blk := by
              rw [← List.filterMap_append, List.take_append_drop]
            rw [e4]
            refine (sub _ _).append ((sub _ _).trans ?_)
            refine List.Sublist.filterMap _ ?_
            rw [hxl, ← List.drop_drop]
            exact List.drop_sublist _ _
          have hN1 := hnod.sublist (List.Sublist.append (List.Sublist.refl _) (List.Sublist.append hkept (List.Sublist.refl _)))
          have hlN : l.Nodup := (mbl_nodup S hrows hnd).sublist hsub
          have hlcol : ∀ g ∈ l, col g ≠ some (n, false) := fun g hg => by
            obtain ⟨m, _, _, _, _, hcm⟩ := mbl_col S hrows (hsub.subset hg)
            rw [hcm]; simp
          refine (List.Perm.nodup_iff (List.Perm.append_left _ (List.Perm.append_right _ hperm))).2 ?_
          have hin1 : ∀ g, g ∈ (seg cs b.o (i * k.sz)).filterMap blk → col g = some (n, false) := fun g hg => hall g (by simp [hg])
          have hin2 : ∀ g, g ∈ kept (splice (cellsK k xs[i]) c v.cells) (seg cs' (b.o + i * k.sz) k.sz) → col g = some (n, false) := fun g hg => hall g (by simp [hkept.subset hg])
          have hin3 : ∀ g, g ∈ (seg cs (b.o + (i + 1) * k.sz) ((xs.length - (i + 1)) * k.sz)).filterMap blk → col g = some (n, false) := fun g hg => hall g (by simp [hg])
          generalize (seg cs b.o (i * k.sz)).filterMap blk = A at hN1 hin1 ⊢
          generalize kept (splice (cellsK k xs[i]) c v.cells) (seg cs' (b.o + i * k.sz) k.sz) = B at hN1 hin2 ⊢
          generalize (seg cs (b.o + (i + 1) * k.sz) ((xs.length - (i + 1)) * k.sz)).filterMap blk = C at hN1 hin3 ⊢
          rw [List.nodup_append] at hN1
          obtain ⟨n1, n2, n3⟩ := hN1
          rw [List.nodup_append] at n2
          obtain ⟨n4, n5, n6⟩ := n2
          refine List.nodup_append.2 ⟨n1, List.nodup_append.2 ⟨List.nodup_append.2 ⟨n4, hlN, fun x hx y hy e' => ?_⟩, n5, fun x hx y hy e' => ?_⟩, fun x hx y hy e' => ?_⟩
          · subst e'; exact hlcol x hy (hin2 x hx)
          · subst e'
            rcases List.mem_append.1 hx with h | h
            · exact n6 x h x hy rfl
            · exact hlcol x h (hin3 x hy)
          · subst e'
            rcases List.mem_append.1 hy with h | h
            · rcases List.mem_append.1 h with h | h
              · exact n3 x hx x (List.mem_append.2 (.inl h)) rfl
              · exact hlcol x h (hin1 x hx)
            · exact n3 x hx x (List.mem_append.2 (.inr h)) rfl
end
end Go.Proofs.YtlkbmcmglkdciaaE
