/- Operations that leave the world alone, all of them. No condition. -/
import Derived.Test.YtlkbmcmglkdciaaE5
set_option linter.unusedVariables false
set_option linter.unusedSectionVars false
set_option linter.unusedSimpArgs false
namespace Go.Proofs.YtlkbmcmglkdciaaE
open Go Go.RowKit

section
variable {own0 : Own} {w0 : World} {st : St} {a : Act} {w : World} {β : Bs} {col : Col} {P : Program}

theorem ok1_eq {v v' : AV} {st st' : St} {c : Bool} (h : ok1 v st = some (c, v', st')) : c = true ∧ v' = v ∧ st' = st := by
  simp [ok1] at h; exact ⟨h.1, h.2.1.symm, h.2.2.symm⟩

theorem fieldOf_ok {t f d ft : Nat} (h : fieldOf P t f = some (d, ft)) : ∃ fs x, P.underlying t = some (.struct fs) ∧ fs[f]? = some x ∧ 0 < P.cellsOf x.type ∧ x.offset = d ∧ x.type = ft := by
  unfold fieldOf at h
  split at h
  · rename_i fs hu
    split at h
    · rename_i x hx
      simp only [cn] at h
      split at h
      · cases h
      · rename_i hb
        cases h
        refine ⟨fs, x, hu, hx, ?_, rfl, rfl⟩
        rcases Nat.eq_zero_or_pos (P.cellsOf x.type) with h0 | h0
        · rw [h0] at hb; cases hb
        · exact h0
    · cases h
  · cases h

theorem shift_ok {x : AV} {vx : Value} {d : Nat} {v : AV} (hx : vrel st.heap β col w x vx) (h : x.shift d = some v) :
    ∃ A, vx = .pointer (some A) ∧ vrel st.heap β col w v (.pointer (some (A.add d))) := by
  cases x <;> simp only [AV.shift] at h <;> first | cases h | skip
  · obtain ⟨r, b, h1, h2, rfl, h4⟩ := hx
    exact ⟨_, rfl, r, b, h1, h2, by rw [add_none]; simp [Nat.add_assoc], h4⟩
  · obtain ⟨s, b, cs, fz, e', k', ys, g', o', q, h1, h2, h3, h4, h5, h6, h7, rfl⟩ := hx
    exact ⟨_, rfl, s, b, cs, fz, e', k', ys, g', o', q, h1, h2, h3, h4, h5, h6, h7, by rw [add_none]; simp [Nat.add_assoc]⟩
  · obtain ⟨g, o, cs, e, fz, h1, h2, h3, rfl, h5⟩ := hx
    exact ⟨_, rfl, g, o, cs, e, fz, h1, h2, h3, by rw [add_none]; simp [Nat.add_assoc], h5⟩

theorem asV_ok {b : Bool} {vs : List AV} {cs : List Value} {v : AV} (hv : vrels st.heap β col w vs cs) (h : asV (some b) vs = some v) :
    (b = true ∧ vrel st.heap β col w v (.agg cs.toArray)) ∨ (b = false ∧ ∃ x, cs = [x] ∧ vrel st.heap β col w v x) := by
  unfold asV at h
  split at h
  · rename_i e; cases e; cases h; exact .inl ⟨rfl, _, rfl, by simpa using hv⟩
  · rename_i x e; cases e; cases h
    cases cs with
    | nil => exact hv.elim
    | cons c l => cases l with
      | nil => exact .inr ⟨rfl, c, rfl, hv.1⟩
      | cons _ _ => exact hv.2.elim
  · cases h

theorem load_okZ (S : Sat own0 w0 st a w β col) {t : Nat} {p : AV} {x : Value} {v : AV} {st' : St} {Z : World → Prop} (hZ : ∀ (g o : Nat) (cs : Array Value) (e : Nat) (fz : Nat × Nat), x = .pointer (some ⟨g, o, none⟩) → w.heap[g]? = some (.cells cs e fz) → ∀ w2, Z w2 → w2.heap[g]? = some (.cells cs e fz)) (hp : vrel st.heap β col w p x) (h : stLoad P t p st = some (true, v, st')) :
    st' = st ∧ ∃ r, (∀ w2 : World, Z w2 → (Instr.loadAt t x).run P w2 = .ok r w2) ∧ vrel st.heap β col w v r := by
  unfold stLoad at h
  split at h
  · rename_i vs hr
    obtain ⟨h1, h2⟩ := cn_some h
    have h1 := Nat.le_of_ble_eq_true h1
    rw [lenN_eq] at h1
    split at h2
    · rename_i v' hv
      obtain ⟨_, rfl, rfl⟩ := ok1_eq h2
      obtain ⟨g, o, cs, e, fz, rfl, hw, hrel⟩ := rest_ok S hp hr
      refine ⟨rfl, ?_⟩
      have hl := vrels_len hrel
      have hl2 : o + vs.length ≤ cs.size ∨ vs.length = 0 := by
        unfold seg at hl; simp at hl; omega
      cases hagg : aggT P t with
      | none => rw [hagg] at hv; simp [asV] at hv
      | some b =>
        rw [hagg, takeN_eq] at hv
        have htake := vrels_take (P.cellsOf t) hrel
        have hseg : (seg cs o vs.length).take (P.cellsOf t) = seg cs o (P.cellsOf t) := by
          simp only [seg, List.take_take]; rw [Nat.min_eq_left h1]
        rw [hseg] at htake
        simp only [Instr.loadAt, Instr.sureAddr, pure_bind]
        unfold loadVar
        have hw2 : ∀ w2 : World, Z w2 → w2.heap[g]? = some (.cells cs e fz) := fun w2 hB => hZ g o cs e fz rfl hw w2 hB
        rcases asV_ok htake hv with ⟨rfl, hr⟩ | ⟨rfl, y, hy, hr⟩
        · refine ⟨_, fun w2 hB => ?_, hr⟩
          rw [aggT_run hagg]
          simp only [if_true]
          rcases Nat.eq_zero_or_pos (P.cellsOf t) with h0 | h0
          · -- a type without cells: not met
            rw [h0] at hv ⊢
            have : ∀ i, P.info? t = some i → i.size = 0 := by
              intro i hi; unfold Program.cellsOf at h0; rw [hi] at h0; simpa using h0
            have hinfo : ∃ i, P.info? t = some i := by
              unfold aggT at hagg
              split at hagg <;> rename_i hd <;> (unfold Program.underlying at hd; split at hd <;> first | exact ⟨_, by assumption⟩ | cases hd) <;> skip
              all_goals cases hagg
            obtain ⟨i, hi⟩ := hinfo
            simp [sizeOf, typeInfo, program, bind, Sem.bind, Sem.run, hi, pure, this i hi, loadCells, loadCellsFrom, seg]
          · rw [run_size h0]
            show (loadCellsFrom _ 0 _ #[] >>= _).run P w2 = _
            rw [run_loadCells (hw2 w2 hB) _ _ _ _ (by omega)]
            simp [pure, Sem.run]
        · refine ⟨y, fun w2 hB => ?_, hr⟩
          rw [aggT_run hagg]
          simp only [Bool.false_eq_true, if_false]
          have hsz : 0 < P.cellsOf t := by
            rcases Nat.eq_zero_or_pos (P.cellsOf t) with h0 | h0
            · rw [h0] at hy; simp [seg] at hy
            · exact h0
          have : cs[o]? = some y := by
            have := seg_get (cs := cs) (o := o) hsz
            rw [hy] at this; simpa using this.symm
          simp [load, Sem.run, cell_at (hw2 w2 hB), this]
    · cases h2
  · cases h

theorem load_ok (S : Sat own0 w0 st a w β col) {t : Nat} {p : AV} {x : Value} {v : AV} {st' : St} (hp : vrel st.heap β col w p x) (h : stLoad P t p st = some (true, v, st')) :
    st' = st ∧ ∃ r, (∀ w2 : World, Below w.heap.size w w2 → (Instr.loadAt t x).run P w2 = .ok r w2) ∧ vrel st.heap β col w v r :=
  load_okZ S (fun g o cs e fz _ hw w2 hB => by rw [hB.block g (Array.getElem?_eq_some_iff.1 hw).1]; exact hw) hp h

/-! ### Slices -/
theorem run_bound {n : Int} {y : Nat} {c : BoundsCode} (h0 : 0 ≤ n) (h1 : n ≤ y) {α : Type} (f : Nat → Sem α) : (Instr.sliceBound (.int .i64 n) y c >>= f).run P w = (f n.toNat).run P w := by
  have : Instr.sliceBound (.int .i64 n) y c = pure n.toNat := by
    unfold Instr.sliceBound
    simp only [asIntOf, pure_bind]
    show (if 0 ≤ n ∧ n ≤ (y : Int) then pure n.toNat else boundsPanic IntKind.i64 n (y : Int) c : Sem Nat) = pure n.toNat
    rw [if_pos ⟨h0, h1⟩]
  rw [this, pure_bind]
theorem run_bounds {len cap : Nat} {lo hi : Option Int} (isS : Bool) (h0 : 0 ≤ lo.getD 0) (h1 : lo.getD 0 ≤ hi.getD len) (h2 : hi.getD len ≤ cap) {α : Type} (f : Nat × Nat × Nat → Sem α) :
    (Instr.sliceBounds isS len cap (lo.map (Value.int .i64)) (hi.map (Value.int .i64)) none >>= f).run P w = (f ((lo.getD 0).toNat, (hi.getD len).toNat, cap)).run P w := by
  have : ∀ {β : Type} (x : β) (g : β → Sem α), (pure x >>= g) = g x := fun x g => rfl
  unfold Instr.sliceBounds
  cases lo <;> cases hi
  · simp
  · rename_i b
    simp only [Option.map_some, Option.map_none, Option.getD_some, Option.getD_none, pure_bind, bind_assoc] at *
    rw [run_bound (by omega) h2]
    simp
  · rename_i b
    simp only [Option.map_some, Option.map_none, Option.getD_some, Option.getD_none, pure_bind, bind_assoc] at *
    rw [run_bound (by omega) (by omega)]
    simp
  · rename_i b c
    simp only [Option.map_some, Option.map_none, Option.getD_some, Option.getD_none, pure_bind, bind_assoc] at *
    rw [run_bound (by omega) h2]
    rw [run_bound (by omega) (by omega)]

theorem run_sliceRow {t d : Nat} (hu : P.underlying t = some (.slice d)) (hs : 0 < P.cellsOf d) {A : Option Addr} {n c : Nat} {lo hi : Option Int}
    (h0 : 0 ≤ lo.getD 0) (h1 : lo.getD 0 ≤ hi.getD n) (h2 : hi.getD n ≤ c) :
    (Instr.sliceAt t (.slice A n c) (lo.map (Value.int .i64)) (hi.map (Value.int .i64)) none).run P w =
      .ok (.slice (if c = (lo.getD 0).toNat then A else A.map (·.add ((lo.getD 0).toNat * P.cellsOf d))) ((hi.getD n).toNat - (lo.getD 0).toNat) (c - (lo.getD 0).toNat)) w := by
  unfold Instr.sliceAt
  rw [run_und hu]
  show (Instr.slice _ _ _ _ _).run P w = _
  unfold Instr.slice
  rw [run_und hu]
  show (Instr.sliceBounds true n c _ _ none >>= _).run P w = _
  rw [run_bounds true h0 h1 h2]
  show (sizeOf d >>= _).run P w = _
  rw [run_size hs]
  rfl
theorem run_sliceStr {t : Nat} (hu : P.underlying t = some .string) {s : ByteArray} {lo hi : Option Int}
    (h0 : 0 ≤ lo.getD 0) (h1 : lo.getD 0 ≤ hi.getD s.size) (h2 : hi.getD s.size ≤ s.size) :
    (Instr.sliceAt t (.string s) (lo.map (Value.int .i64)) (hi.map (Value.int .i64)) none).run P w = .ok (.string (s.extract (lo.getD 0).toNat (hi.getD s.size).toNat)) w := by
  unfold Instr.sliceAt
  rw [run_und hu]
  show (Instr.slice _ _ _ _ _).run P w = _
  unfold Instr.slice
  rw [run_und hu]
  show (Instr.sliceBounds false s.size s.size _ _ none >>= _).run P w = _
  rw [run_bounds false h0 h1 h2]
  rfl

theorem slAt_cut {b : Option Base} {sz lo : Nat} {A : Option Addr} {c : Nat} (hb : match b with
    | none => c = 0 ∧ lo = 0
    | some b => (c = 0 ∨ A = some ⟨b.g, b.o + lo * sz, none⟩) ∧ b.o + lo * sz + c * sz ≤ b.S) {l m : Nat} (hl : l ≤ c) (hm : m ≤ c - l) :
    slAt b sz (lo + l) m (.slice (if c = l then A else A.map (·.add (l * sz))) m (c - l)) := by
  refine ⟨_, _, rfl, hm, ?_⟩
  cases b with
  | none =>
    obtain ⟨rfl, rfl⟩ := hb
    have : l = 0 := by omega
    subst this
    simp
  | some b =>
    obtain ⟨h1, h2⟩ := hb
    simp only
    constructor
    · by_cases e : c = l
      · left; omega
      · right
        rw [if_neg e]
        rcases h1 with h | h
        · omega
        · rw [h]; simp [add_none, Nat.add_mul, Nat.add_assoc]
    · have : c * sz = l * sz + (c - l) * sz := by rw [← Nat.add_mul]; congr 1; omega
      rw [Nat.add_mul]; omega

theorem stWin_ok {n o m : Nat} {x : AV} {lo hi : Option Int} {v : AV} {st' : St} {s : Sl} {A : Option Addr} {c : Nat} {t d : Nat}
    (hu : P.underlying t = some (.slice d)) (hs : 0 < P.cellsOf d) (hsz : s.k.sz = P.cellsOf d) (hr : rowsOf st.heap n = some s) (hx : vrel st.heap β col w x (.slice A m c)) (hom : o + m ≤ s.xs.length) (hc : m ≤ c)
    (hb : match β n with
      | none => c = 0 ∧ o = 0
      | some b => (c = 0 ∨ A = some ⟨b.g, b.o + o * s.k.sz, none⟩) ∧ b.o + o * s.k.sz + c * s.k.sz ≤ b.S)
    (h : stWin n o m lo hi x st = some (true, v, st')) :
    st' = st ∧ ∃ r, (∀ w2 : World, Below w.heap.size w w2 → (Instr.sliceAt t (.slice A m c) (lo.map (Value.int .i64)) (hi.map (Value.int .i64)) none).run P w2 = .ok r w2) ∧ vrel st.heap β col w v r := by
  cases lo with
  | none => cases hi with
    | none =>
      obtain ⟨_, rfl, rfl⟩ := ok1_eq h
      refine ⟨rfl, _, fun w2 _ => run_sliceRow hu hs (by simp) (by simp) (by simp; omega), ?_⟩
      have : (if c = 0 then A else A.map (fun x => x.add 0)) = A := by
        split
        · rfl
        · cases A <;> simp [Addr.add]
      simpa [this] using hx
    | some b =>
      simp only [stWin, Option.some.injEq, Prod.mk.injEq, Bool.and_eq_true, decide_eq_true_eq] at h
      obtain ⟨⟨h1, h2⟩, rfl, rfl⟩ := h
      refine ⟨rfl, _, fun w2 _ => run_sliceRow hu hs (by simp) (by simpa using h1) (by simp; omega), ?_⟩
      have := slAt_cut (l := 0) (m := b.toNat) hb (by omega) (by omega)
      refine win_mk hr (by omega) ?_
      simpa [hsz] using this
  | some a => cases hi with
    | none =>
      simp only [stWin, Option.some.injEq, Prod.mk.injEq, Bool.and_eq_true, decide_eq_true_eq] at h
      obtain ⟨⟨h1, h2⟩, rfl, rfl⟩ := h
      refine ⟨rfl, _, fun w2 _ => run_sliceRow hu hs (by simpa using h1) (by simpa using h2) (by simp; omega), ?_⟩
      have := slAt_cut (l := a.toNat) (m := m - a.toNat) hb (by omega) (by omega)
      refine win_mk hr (by omega) ?_
      simpa [hsz] using this
    | some b =>
      simp only [stWin, Option.some.injEq, Prod.mk.injEq, Bool.and_eq_true, decide_eq_true_eq] at h
      obtain ⟨⟨h1, h2, h3⟩, rfl, rfl⟩ := h
      refine ⟨rfl, _, fun w2 _ => run_sliceRow hu hs (by simpa using h1) (by simpa using h2) (by simp; omega), ?_⟩
      have := slAt_cut (l := a.toNat) (m := b.toNat - a.toNat) hb (by omega) (by omega)
      refine win_mk hr (by omega) ?_
      simpa [hsz] using this

theorem addr_add2 (A : Addr) (x y : Nat) : (A.add x).add y = A.add (x + y) := by
  simp only [Addr.add]
  by_cases hx : x = 0
  · subst hx; simp
  · by_cases hy : y = 0
    · subst hy; simp
    · simp [hx, hy, Nat.add_assoc]
theorem stSwin_ok {n j c0 o m : Nat} {lo hi : Option Int} {v : AV} {st' : St} {s s0 : Sl} {b : Base} {cs : Array Value} {fz : Nat × Nat} {A A2 : Option Addr} {q : Nat} {t d : Nat}
    (hu : P.underlying t = some (.slice d)) (hs : 0 < P.cellsOf d) (hsz : s.k.sz = P.cellsOf d) (k1 : rowsOf st.heap n = some s0) (k2 : β n = some b) (k3 : j < s0.xs.length) (k4 : w.heap[b.g]? = some (.cells cs s0.e fz))
    (k5 : subAt s0.k (getAt s0.k.dflt s0.xs j) c0 = some (.row s.e s.k s.xs)) (hom : o + m ≤ s.xs.length) (hc : s.xs.length ≤ q) (k8 : cs[b.o + j * s0.k.sz + c0]? = some (.slice A s.xs.length q))
    (hmq : m ≤ q - o) (hA : q = o ∨ A2 = A.map (·.add (o * s.k.sz)))
    (h : stSwin n j c0 o m lo hi st = some (true, v, st')) :
    st' = st ∧ ∃ r, (∀ w2 : World, Below w.heap.size w w2 → (Instr.sliceAt t (.slice A2 m (q - o)) (lo.map (Value.int .i64)) (hi.map (Value.int .i64)) none).run P w2 = .ok r w2) ∧ vrel st.heap β col w v r := by
  have fin : ∀ l len, l ≤ m → len ≤ m - l → vrel st.heap β col w (.swin n j c0 (o + l) len) (.slice (if q - o = l then A2 else A2.map (·.add (l * P.cellsOf d))) len (q - o - l)) := fun l len h1 h2 => by
    refine ⟨s0, b, cs, fz, s.e, s.k, s.xs, A, q, _, k1, k2, k3, k4, k5, by omega, hc, k8, by rw [Nat.sub_sub], ?_⟩
    by_cases e : q = o + l
    · exact .inl e
    · right
      rw [if_neg (by omega), hA.resolve_left (by omega), ← hsz, Nat.add_mul]
      cases A with
      | none => rfl
      | some A => exact congrArg some (addr_add2 A _ _)
  cases lo with
  | none => cases hi with
    | none => cases h
    | some b =>
      simp only [stSwin, Option.some.injEq, Prod.mk.injEq, Bool.and_eq_true, decide_eq_true_eq] at h
      obtain ⟨⟨h1, h2⟩, rfl, rfl⟩ := h
      refine ⟨rfl, _, fun w2 _ => run_sliceRow hu hs (by simp) (by simpa using h1) (by simp; omega), ?_⟩
      have := fin 0 b.toNat (by omega) (by omega)
      simpa using this
  | some a => cases hi with
    | none =>
      simp only [stSwin, Option.some.injEq, Prod.mk.injEq, Bool.and_eq_true, decide_eq_true_eq] at h
      obtain ⟨⟨h1, h2⟩, rfl, rfl⟩ := h
      refine ⟨rfl, _, fun w2 _ => run_sliceRow hu hs (by simpa using h1) (by simpa using h2) (by simp; omega), ?_⟩
      have := fin a.toNat (m - a.toNat) (by omega) (by omega)
      simpa using this
    | some b =>
      simp only [stSwin, Option.some.injEq, Prod.mk.injEq, Bool.and_eq_true, decide_eq_true_eq] at h
      obtain ⟨⟨h1, h2, h3⟩, rfl, rfl⟩ := h
      refine ⟨rfl, _, fun w2 _ => run_sliceRow hu hs (by simpa using h1) (by simpa using h2) (by simp; omega), ?_⟩
      have := fin a.toNat (b.toNat - a.toNat) (by omega) (by omega)
      simpa using this

theorem slice_ok (S : Sat own0 w0 st a w β col) {t : Nat} {x : AV} {vx : Value} {lo hi : Option Int} {v : AV} {st' : St} (hx : vrel st.heap β col w x vx)
    (h : stSlice P t x lo hi st = some (true, v, st')) :
    st' = st ∧ ∃ r, (∀ w2 : World, Below w.heap.size w w2 → (Instr.sliceAt t vx (lo.map (Value.int .i64)) (hi.map (Value.int .i64)) none).run P w2 = .ok r w2) ∧ vrel st.heap β col w v r := by
  unfold stSlice at h
  split at h
  · rename_i s hu
    obtain rfl : vx = .string s := hx
    split at h
    · obtain ⟨_, rfl, rfl⟩ := ok1_eq h
      exact ⟨rfl, _, fun w2 _ => run_sliceStr hu (by simp) (by simp) (by simp), by simp [vrel]⟩
    all_goals
      simp only [Option.some.injEq, Prod.mk.injEq, Bool.and_eq_true, decide_eq_true_eq] at h
      obtain ⟨h1, rfl, rfl⟩ := h
      exact ⟨rfl, _, fun w2 _ => run_sliceStr hu (by simp; try omega) (by simp; try omega) (by simp; try omega), by simp [vrel]⟩
  · rename_i d e k xs hu
    obtain ⟨h1, h2⟩ := cn_some h
    have hsz := Nat.eq_of_beq_eq_true h1
    have hpos : 0 < P.cellsOf d := by rw [← hsz]; exact sz_pos k
    obtain ⟨A, c, hA, hc, hel⟩ := hx
    cases hA
    have cut : ∀ (l m : Nat), l ≤ m → m ≤ xs.length → vrel st.heap β col w (.row e k ((xs.take m).drop l)) (.slice (if c = l then A else A.map (·.add (l * P.cellsOf d))) (m - l) (c - l)) := by
      intro l m hl hm
      have hlen : ((xs.take m).drop l).length = m - l := by simp; omega
      refine ⟨_, _, by rw [hlen], by rw [hlen]; omega, ?_⟩
      by_cases hml : m = l
      · left; apply List.eq_nil_of_length_eq_zero; omega
      · right
        rcases hel with rfl | ⟨g, o, cs, e2, fz, rfl, hg, hw, hx⟩
        · simp at hm; omega
        · refine ⟨g, o + l * k.sz, cs, e2, fz, ?_, hg, hw, fun i hi => ?_⟩
          · rw [if_neg (by omega)]; simp [add_none, hsz]
          · have hi' : l + i < xs.length := by omega
            have := hx (l + i) hi'
            have e1 : ((xs.take m).drop l)[i] = xs[l + i] := by simp
            rw [e1, show o + l * k.sz + i * k.sz = o + (l + i) * k.sz by rw [Nat.add_mul]; omega]
            exact this
    split at h2
    · obtain ⟨_, rfl, rfl⟩ := ok1_eq h2
      refine ⟨rfl, _, fun w2 _ => run_sliceRow hu hpos (by simp) (by simp) (by simp; omega), ?_⟩
      have := cut 0 xs.length (by omega) (Nat.le_refl _)
      simpa using this
    · rename_i l
      simp only [Option.some.injEq, Prod.mk.injEq, Bool.and_eq_true, decide_eq_true_eq] at h2
      obtain ⟨⟨h3, h4⟩, rfl, rfl⟩ := h2
      refine ⟨rfl, _, fun w2 _ => run_sliceRow hu hpos (by simpa using h3) (by simpa using h4) (by simp; omega), ?_⟩
      have := cut l.toNat xs.length (by omega) (Nat.le_refl _)
      simpa using this
    · rename_i l
      simp only [Option.some.injEq, Prod.mk.injEq, Bool.and_eq_true, decide_eq_true_eq] at h2
      obtain ⟨⟨h3, h4⟩, rfl, rfl⟩ := h2
      refine ⟨rfl, _, fun w2 _ => run_sliceRow hu hpos (by simp) (by simpa using h3) (by simp; omega), ?_⟩
      have := cut 0 l.toNat (by omega) (by omega)
      simpa using this
    · rename_i l m
      simp only [Option.some.injEq, Prod.mk.injEq, Bool.and_eq_true, decide_eq_true_eq] at h2
      obtain ⟨⟨h3, h4, h5⟩, rfl, rfl⟩ := h2
      refine ⟨rfl, _, fun w2 _ => run_sliceRow hu hpos (by simpa using h3) (by simpa using h4) (by simp; omega), ?_⟩
      have := cut l.toNat m.toNat (by omega) (by omega)
      simpa using this
  · rename_i d n hu
    split at h
    · rename_i s hr
      obtain ⟨h1, h2⟩ := cn_some h
      have hsz := Nat.eq_of_beq_eq_true h1
      have hx0 := hx
      obtain ⟨A, c, rfl, hc, hb⟩ := ref_row hx hr
      exact stWin_ok hu (by rw [← hsz]; exact sz_pos _) hsz hr hx0 (by omega) hc hb h2
    · cases h
  · rename_i d n o len hu
    split at h
    · rename_i s hr
      obtain ⟨h1, h2⟩ := cn_some h
      have hsz := Nat.eq_of_beq_eq_true h1
      have hx0 := hx
      obtain ⟨hl, A, c, rfl, hc, hb⟩ := win_row hx hr
      exact stWin_ok hu (by rw [← hsz]; exact sz_pos _) hsz hr hx0 hl hc hb h2
    · cases h
  · rename_i d n j c0 hu
    split at h
    · rename_i s hs
      obtain ⟨h1, h2⟩ := cn_some h
      have hsz := Nat.eq_of_beq_eq_true h1
      obtain ⟨A, c, e1, hc, hh⟩ := sub_read S hx hs
      subst e1
      obtain ⟨s0, b, cs, fz, k1, k2, k3, k4, k5, _⟩ := hx
      have hsub : subAt s0.k (getAt s0.k.dflt s0.xs j) c0 = some (.row s.e s.k s.xs) := by
        simp only [readSl] at hs
        rw [rowOf_get k1] at hs
        simp only at hs
        split at hs
        · rename_i e' k' ys hsub; cases hs; exact hsub
        · cases hs
      refine stSwin_ok hu (by rw [← hsz]; exact sz_pos _) hsz k1 k2 k3 k4 hsub (by omega) hc (by simpa using k5) (by omega) (.inr ?_) h2
      cases A <;> simp [Addr.add]
    · cases h
  · rename_i d n j c0 o len hu
    split at h
    · rename_i s hs
      obtain ⟨h1, h2⟩ := cn_some h
      have hsz := Nat.eq_of_beq_eq_true h1
      obtain ⟨s0, b, cs, fz, e', k', ys, A, q, A2, k1, k2, k3, k4, k5, k6, k7, k8, rfl, k9⟩ := hx
      have hsv : s = ⟨e', k', ys⟩ := by
        simp only [readSl] at hs
        rw [rowOf_get k1] at hs
        simp only [k5] at hs
        exact (Option.some.inj hs).symm
      subst hsv
      exact stSwin_ok hu (by rw [← hsz]; exact sz_pos _) hsz k1 k2 k3 k4 k5 k6 k7 k8 (by omega) k9 h2
    · cases h
  · cases h
end
end Go.Proofs.YtlkbmcmglkdciaaE
