/- append. No condition. -/
import Derived.Test.YtlkbmcmglkdciaaE15
set_option linter.unusedVariables false
set_option linter.unusedSectionVars false
set_option linter.unusedSimpArgs false
namespace Go.Proofs.YtlkbmcmglkdciaaE
open Go Go.RowKit

theorem growBy_le (need : Nat) (h : 256 ≤ need) : ∀ (r c : Nat), c < need → Builtin.growBy need r c ≤ 2 * need
  | 0, c, hc => by simp only [Builtin.growBy]; omega
  | r + 1, c, hc => by
    simp only [Builtin.growBy]
    rw [if_neg (by omega)]
    by_cases h1 : c + (c + 768) / 4 < need
    · exact growBy_le need h r _ h1
    · cases r with
      | zero => simp only [Builtin.growBy]; omega
      | succ r => simp only [Builtin.growBy]; rw [if_pos (by omega)]; omega
theorem nextcap_le {need cap : Nat} (h : cap < need) : Builtin.nextslicecap need cap ≤ 2 * need := by
  unfold Builtin.nextslicecap
  split
  · omega
  · split
    · omega
    · exact growBy_le need (by omega) 4 cap h

section
variable {own0 : Own} {w0 W : World} {st : St} {a : Act} {w : World} {β : Bs} {col : Col} {P : Program} {o : Oper}

theorem und_of_appT {t : Nat} (h : appT P t = true) : ∃ d, P.underlying t = some d ∧ (∀ k, d ≠ .int k) := by
  unfold appT at h
  split at h
  · rename_i e he; exact ⟨_, he, by simp⟩
  · rename_i he; exact ⟨_, he, by simp⟩
  · cases h

/-- How append runs, where there is room: the cells are stored. -/
theorem run_append_in {t t' e : Nat} {A : Option Addr} {len c m : Nat} {vy : Value} {L : List Value} (hu : P.underlying t = some (.slice e)) (hpos : 0 < P.cellsOf e) (ht' : appT P t' = true)
    (hlen : Builtin.lenOf vy = pure m) (hfc : ∀ {α : Type} (f : Array Value → Sem α), (Builtin.firstCells (P.cellsOf e) m vy >>= f).run P w = (f L.toArray).run P w) (hc : len + m ≤ c)
    {w' : World} (hst : (match A with | some a => storeCells (a.add (len * P.cellsOf e)) L 0 | none => pure ()).run P w = .ok () w') (ty : TypeId) :
    (Builtin.append_ #[t, t'] ty #[.slice A len c, vy]).run P w = .ok (.slice A (len + m) c) w' := by
  obtain ⟨d, hd, hd'⟩ := und_of_appT ht'
  have hz : (match d with | .int _ => true | _ => false) = false := by cases d <;> first | rfl | (exact absurd rfl (hd' _))
  unfold Builtin.append_
  show (underlying t >>= _).run P w = _
  rw [run_und hu]
  show (sizeOf e >>= _).run P w = _
  rw [run_size hpos]
  show (underlying t' >>= _).run P w = _
  rw [run_und hd]
  simp only [List.getElem_toArray, List.getElem_cons_succ, List.getElem_cons_zero, pure_bind, hz, Bool.false_eq_true, if_false, hlen, Bool.not_false, if_true]
  rw [if_pos hc]
  rw [hfc]
  cases A with
  | none =>
    simp only [Sem.run_pure, Result.ok.injEq, true_and] at hst
    subst hst
    rfl
  | some a =>
    simp only at hst ⊢
    rw [run_then hst]
    rfl
/-- Where there is none: a new block. -/
theorem run_append_new {t t' e : Nat} {A : Option Addr} {len c m : Nat} {vy : Value} {L X : List Value} {i : TypeInfo} {z : Value} (hu : P.underlying t = some (.slice e)) (hpos : 0 < P.cellsOf e) (ht' : appT P t' = true)
    (hi : P.info? e = some i) (hz : i.zero = some z)
    (hlen : Builtin.lenOf vy = pure m) (hfc : ∀ {w : World} {α : Type} (f : Array Value → Sem α), w.heap = W.heap → (Builtin.firstCells (P.cellsOf e) m vy >>= f).run P w = (f L.toArray).run P w)
    (hfx : ∀ {w : World} {α : Type} (f : Array Value → Sem α), w.heap = W.heap → (Builtin.firstCells (P.cellsOf e) len (.slice A len c) >>= f).run P w = (f X.toArray).run P w)
    (hc : ¬ len + m ≤ c) (h1 : len + m ≤ 2 ^ 46) (h2 : (len + m) * P.bytesOf e ≤ 2 ^ 46) (ty : TypeId) :
    ∃ (cap : Nat) (w' : World), len + m ≤ cap ∧ (Builtin.append_ #[t, t'] ty #[.slice A len c, vy]).run P W = .ok (.slice (some ⟨W.heap.size, 0, none⟩) (len + m) cap) w' ∧
      Grew W w' (.cells (X.toArray ++ L.toArray ++ Builtin.zeroCells z.cells (cap - (len + m))) e) := by
  obtain ⟨d, hd, hd'⟩ := und_of_appT ht'
  have hz' : (match d with | .int _ => true | _ => false) = false := by cases d <;> first | rfl | (exact absurd rfl (hd' _))
  have hb := bytes_info hi
  rw [hb] at h2
  let W1 : World := { W with drawn := W.drawn + 1 }
  let cap := (len + m) + (W.tape W.drawn (.appendCap (len + m) c e)) % (2 ^ 63 - (len + m))
  refine ⟨cap, World.with W1 (.cells (X.toArray ++ L.toArray ++ Builtin.zeroCells z.cells (cap - (len + m))) e), by omega, ?_, ⟨rfl, rfl, rfl, rfl⟩⟩
  have hti : ∀ {w : World}, (typeInfo e).run P w = .ok i w := fun {w} => by simp [typeInfo, program, Sem.run, hi, bind, Sem.bind, pure]
  have hch : (choose (.appendCap (len + m) c e)).run P W = .ok cap W1 := by
    simp [choose, Sem.run, Question.forced, Question.cut, cap, W1]
  have hnc := nextcap_le (show c < len + m by omega)
  have hnb : Builtin.nextslicecap (len + m) c * i.bytes ≤ 2 ^ 48 := by
    have := Nat.mul_le_mul_right i.bytes hnc
    rw [Nat.mul_assoc] at this
    omega
  unfold Builtin.append_
  show (underlying t >>= _).run P W = _
  rw [run_und hu]
  show (sizeOf e >>= _).run P W = _
  rw [run_size hpos]
  show (underlying t' >>= _).run P W = _
  rw [run_und hd]
  simp only [List.getElem_toArray, List.getElem_cons_succ, List.getElem_cons_zero, pure_bind, hz', Bool.false_eq_true, if_false, hlen, Bool.not_false, if_true]
  rw [if_neg hc, run_then hti]
  have hbig : ¬ (((len + m : Nat) : Int) > IntKind.i64.max ∧ (False ∨ i.bytes = 0)) := by
    simp [IntKind.max, IntKind.signed, IntKind.bits]; omega
  simp only [false_or] at hbig ⊢
  rw [if_neg hbig]
  rw [run_then hti]
  rw [if_neg (by omega)]
  rw [run_then hch, run_then hti]
  have hask : ∀ {α : Type} (n : Nat) (f : Unit → Sem α) (w : World), (askRoom n >>= f).run P w = (f ()).run P w := by
    intro α n f w
    unfold askRoom
    split
    · rfl
    · rfl
  rw [hask, hfx (w := W1) _ rfl, hfc (w := W1) _ rfl, run_then (run_zero hi hz W1)]
  rw [run_then (run_newRow W1)]
  rfl

/-- The cells that an append takes. -/
def cellsVal (w : World) (sz m : Nat) : Value → List Value
  | .slice (some a) _ _ => match w.heap[a.block]? with
    | some (.cells cs _ _) => seg cs a.off (m * sz)
    | _ => []
  | .string s => ((s.extract 0 m).data.map fun b => Value.int .u8 b.toNat).toList
  | _ => []
theorem run_cellsVal {sz m n c : Nat} {A : Option Addr} (h : n = 0 ∨ ∃ g o cs e fz, A = some ⟨g, o, none⟩ ∧ W.heap[g]? = some (.cells cs e fz) ∧ o + n * sz ≤ cs.size) (hm : m ≤ n) {w : World} (hw : w.heap = W.heap) {α : Type} (f : Array Value → Sem α) :
    (Builtin.firstCells sz m (.slice A n c) >>= f).run P w = (f (if m * sz = 0 then [] else cellsVal W sz m (.slice A n c)).toArray).run P w := by
  by_cases h0 : m * sz = 0
  · rw [if_pos h0]
    cases A with
    | none => rfl
    | some a => simp [Builtin.firstCells, loadCells, loadCellsFrom, h0]
  · rw [if_neg h0]
    rcases h with rfl | ⟨g, o, cs, e, fz, rfl, hg, hl⟩
    · exact absurd (by have : m = 0 := by omega
                       rw [this]; simp) h0
    · have hle := Nat.mul_le_mul_right sz hm
      show (loadCellsFrom _ 0 _ #[] >>= f).run P w = _
      rw [run_loadCells (by rw [hw]; exact hg) _ _ _ _ (by omega)]
      simp [cellsVal, hg]

/-- What an append of m values does, where what it takes are the cells L. -/
structure AppRun (P : Program) (t t' e : Nat) (w : World) (vy : Value) (m : Nat) (L : List Value) : Prop where
  inn : ∀ {A : Option Addr} {len c : Nat} {w' : World}, len + m ≤ c → (match A with | some a => storeCells (a.add (len * P.cellsOf e)) L 0 | none => pure ()).run P w = .ok () w' → ∀ ty : TypeId,
    (Builtin.append_ #[t, t'] ty #[.slice A len c, vy]).run P w = .ok (.slice A (len + m) c) w'
  new : ∀ {A : Option Addr} {len c : Nat} {X : List Value} {i : TypeInfo} {z : Value}, P.info? e = some i → i.zero = some z →
    (∀ {w' : World} {α : Type} (f : Array Value → Sem α), w'.heap = w.heap → (Builtin.firstCells (P.cellsOf e) len (.slice A len c) >>= f).run P w' = (f X.toArray).run P w') →
    ¬ len + m ≤ c → len + m ≤ 2 ^ 46 → (len + m) * P.bytesOf e ≤ 2 ^ 46 → ∀ ty : TypeId,
    ∃ (cap : Nat) (w' : World), len + m ≤ cap ∧ (Builtin.append_ #[t, t'] ty #[.slice A len c, vy]).run P w = .ok (.slice (some ⟨w.heap.size, 0, none⟩) (len + m) cap) w' ∧
      Grew w w' (.cells (X.toArray ++ L.toArray ++ Builtin.zeroCells z.cells (cap - (len + m))) e)
/-- The same for the zero values of append(x, make([]T, n)...). -/
theorem run_appz {t t' e : Nat} {n : Int} {q : IntKind} {i : TypeInfo} {z : Value} (hu : P.underlying t = some (.slice e)) (hpos : 0 < P.cellsOf e) (ht' : appZT P t' = true) (hi : P.info? e = some i) (hz : i.zero = some z) (hzs : z.cells.size = P.cellsOf e)
    (h0 : 0 ≤ IntKind.i64.wrap n) (hb1 : (IntKind.i64.wrap n).toNat * P.bytesOf e ≤ 2 ^ 46) : AppRun P t t' e W (.int q n) (IntKind.i64.wrap n).toNat (Builtin.zeroCells z.cells (IntKind.i64.wrap n).toNat).toList := by
  have hb := bytes_info hi
  rw [hb] at hb1
  obtain ⟨q', hd⟩ : ∃ q', P.underlying t' = some (.int q') := by
    unfold appZT at ht'
    split at ht'
    · rename_i q' h; exact ⟨q', h⟩
    · cases ht'
  generalize hm : IntKind.i64.wrap n = m at h0 hb1 ⊢
  have hti : ∀ {w : World}, (typeInfo e).run P w = .ok i w := fun {w} => by simp [typeInfo, program, Sem.run, hi, bind, Sem.bind, pure]
  have hbig : ¬ (m * (i.bytes : Int) > 2 ^ 48) := by
    have : m * (i.bytes : Int) = ((m.toNat * i.bytes : Nat) : Int) := by rw [Int.natCast_mul, Int.toNat_of_nonneg h0]
    rw [this]; omega
  have hap : ∀ {w : World} {α : Type} (f : Array Value → Sem α), ((if m.toNat * P.cellsOf e = 0 then pure #[] else do pure (Builtin.zeroCells (← zeroValue e).cells m.toNat)) >>= f).run P w = (f (Builtin.zeroCells z.cells m.toNat).toList.toArray).run P w := by
    intro w α f
    by_cases h : m.toNat * P.cellsOf e = 0
    · rw [if_pos h]
      have : m.toNat = 0 := by rcases Nat.mul_eq_zero.1 h with h | h <;> omega
      rw [this]
      show (f #[]).run P w = _
      congr 2
      apply Array.ext'; simp [Builtin.zeroCells]
    · rw [if_neg h, bind_assoc, run_then (run_zero hi hz w)]
      simp
  refine ⟨fun {A len c w'} hc hst ty => ?_, fun {A len c X i' z'} hi' hz' hfx hc h1 h2 ty => ?_⟩
  · unfold Builtin.append_
    show (underlying t >>= _).run P W = _
    rw [run_und hu]
    show (sizeOf e >>= _).run P W = _
    rw [run_size hpos]
    show (underlying t' >>= _).run P W = _
    rw [run_und hd]
    simp only [List.getElem_toArray, List.getElem_cons_succ, List.getElem_cons_zero, pure_bind, if_true, asInt, asIntOf, Bool.not_true, Bool.false_eq_true, if_false, hm, bind_assoc]
    rw [if_neg (by omega)]
    rw [run_then hti]
    rw [if_neg hbig]
    rw [if_pos hc]
    rw [hap]
    cases A with
    | none =>
      simp only [Sem.run_pure, Result.ok.injEq, true_and] at hst
      subst hst
      rfl
    | some a =>
      simp only at hst ⊢
      rw [run_then hst]
      rfl
  · rw [hi] at hi'; cases hi'
    rw [hz] at hz'; cases hz'
    rw [hb] at h2
    let W1 : World := { W with drawn := W.drawn + 1 }
    let cap := (len + m.toNat) + (W.tape W.drawn (.appendCap (len + m.toNat) c e)) % (2 ^ 63 - (len + m.toNat))
    refine ⟨cap, World.with W1 (.cells (X.toArray ++ (Builtin.zeroCells z.cells m.toNat).toList.toArray ++ Builtin.zeroCells z.cells (cap - (len + m.toNat))) e), by omega, ?_, ⟨rfl, rfl, rfl, rfl⟩⟩
    have hch : (choose (.appendCap (len + m.toNat) c e)).run P W = .ok cap W1 := by
      simp [choose, Sem.run, Question.forced, Question.cut, cap, W1]
    have hnc := nextcap_le (show c < len + m.toNat by omega)
    have hnb : Builtin.nextslicecap (len + m.toNat) c * i.bytes ≤ 2 ^ 48 := by
      have := Nat.mul_le_mul_right i.bytes hnc
      rw [Nat.mul_assoc] at this
      omega
    unfold Builtin.append_
    show (underlying t >>= _).run P W = _
    rw [run_und hu]
    show (sizeOf e >>= _).run P W = _
    rw [run_size hpos]
    show (underlying t' >>= _).run P W = _
    rw [run_und hd]
    simp only [List.getElem_toArray, List.getElem_cons_succ, List.getElem_cons_zero, pure_bind, if_true, asInt, asIntOf, Bool.not_true, Bool.false_eq_true, if_false, hm, bind_assoc]
    rw [if_neg (by omega)]
    rw [run_then hti]
    rw [if_neg hbig]
    rw [if_neg hc, run_then hti]
    have hbig2 : ¬ ((((len + m.toNat : Nat) : Int) > IntKind.i64.max) ∧ (True ∨ i.bytes = 0)) := by
      simp [IntKind.max, IntKind.signed, IntKind.bits]; omega
    rw [if_neg (by simpa using hbig2)]
    rw [run_then hti]
    rw [if_neg (by omega)]
    rw [run_then hch, run_then hti]
    have hask : ∀ {α : Type} (n : Nat) (f : Unit → Sem α) (w : World), (askRoom n >>= f).run P w = (f ()).run P w := by
      intro α n f w
      unfold askRoom
      split
      · rfl
      · rfl
    rw [hask, hfx (w' := W1) _ rfl, hap, run_then (run_zero hi hz W1)]
    rw [run_then (run_newRow W1)]
    rfl

/-- Where what an append takes comes from: as cells, and as data. -/
structure Src (w : World) (col : Col) (k : Kind) (ys : List k.den) (ms : List Nat) (vy : Value) (L : List Value) : Prop where
  len : Builtin.lenOf vy = pure ys.length
  run : ∀ {P : Program} {w' : World} {α : Type} (f : Array Value → Sem α), w'.heap = w.heap → (Builtin.firstCells k.sz ys.length vy >>= f).run P w' = (f L.toArray).run P w'
  size : L.length = ys.length * k.sz
  rep : ∀ i, ∀ h : i < ys.length, rep w (fun g => ∃ m ∈ ms, col g = some (m, false)) k ys[i] ((L.drop (i * k.sz)).take k.sz)
  ink : ∀ i, i < ys.length → inK w (fun g => ∃ m ∈ ms, col g = some (m, false)) k ((L.drop (i * k.sz)).take k.sz)
  nodup : flat k = true ∨ ((L.filterMap blk).Nodup ∧ ∀ g ∈ L.filterMap blk, ∃ m ∈ ms, col g = some (m, false))
  one : ∀ v ∈ L, oneC v = true

structure SrcD (w : World) (col : Col) (k : Kind) (ys : List k.den) (ms : List Nat) (L : List Value) : Prop where
  size : L.length = ys.length * k.sz
  rep : ∀ i, ∀ h : i < ys.length, rep w (fun g => ∃ m ∈ ms, col g = some (m, false)) k ys[i] ((L.drop (i * k.sz)).take k.sz)
  ink : ∀ i, i < ys.length → inK w (fun g => ∃ m ∈ ms, col g = some (m, false)) k ((L.drop (i * k.sz)).take k.sz)
  nodup : flat k = true ∨ ((L.filterMap blk).Nodup ∧ ∀ g ∈ L.filterMap blk, ∃ m ∈ ms, col g = some (m, false))
  one : ∀ v ∈ L, oneC v = true
theorem Src.d {w : World} {col : Col} {k : Kind} {ys : List k.den} {ms : List Nat} {vy : Value} {L : List Value} (h : Src w col k ys ms vy L) : SrcD w col k ys ms L := ⟨h.size, h.rep, h.ink, h.nodup, h.one⟩
theorem Src.appRun {P : Program} {t t' e : Nat} {w : World} {col : Col} {k : Kind} {ys : List k.den} {ms : List Nat} {vy : Value} {L : List Value} (h : Src w col k ys ms vy L)
    (hu : P.underlying t = some (.slice e)) (hsz : P.cellsOf e = k.sz) (ht' : appT P t' = true) : AppRun P t t' e w vy ys.length L :=
  have hpos : 0 < P.cellsOf e := by have := sz_pos k; omega
  ⟨fun hc hst ty => run_append_in hu hpos ht' h.len (fun f => by rw [hsz]; exact h.run f rfl) hc hst ty,
   fun hi hz hfx hc h1 h2 ty => run_append_new hu hpos ht' hi hz h.len (fun f hw => by rw [hsz]; exact h.run f hw) (fun f hw => hfx f hw) hc h1 h2 ty⟩

theorem rep_one {w : World} {Z : Nat → Prop} : ∀ {k : Kind} {x : k.den} {vs : List Value}, rep w Z k x vs → ∀ v ∈ vs, oneC v = true
  | .int _, _, _, h => by rw [show _ = _ from h]; simp [oneC]
  | .bool, _, _, h => by rw [show _ = _ from h]; simp [oneC]
  | .str, _, _, h => by rw [show _ = _ from h]; simp [oneC]
  | .pair a b, _, _, h => by
    obtain ⟨p, q, rfl, h1, h2⟩ := h
    intro v hv
    rcases List.mem_append.1 hv with hv | hv
    · exact rep_one h1 v hv
    · exact rep_one h2 v hv
  | .sl _ _, _, _, h => by
    obtain ⟨A, c, rfl, _⟩ := h
    intro v hv
    rw [List.mem_singleton.1 hv]; rfl
theorem reps_one {w : World} {k : Kind} {ys : List k.den} {L : List Value} (hs : L.length = ys.length * k.sz) (hr : ∀ i, ∀ h : i < ys.length, ∃ Z, YtlkbmcmglkdciaaE.rep w Z k ys[i] ((L.drop (i * k.sz)).take k.sz)) : ∀ v ∈ L, oneC v = true := by
  intro v hv
  obtain ⟨j, hj⟩ := List.mem_iff_getElem?.1 hv
  have hjl := (List.getElem?_eq_some_iff.1 hj).1
  have hpos := sz_pos k
  have hi : j / k.sz < ys.length := Nat.div_lt_of_lt_mul (by rw [Nat.mul_comm]; omega)
  obtain ⟨Z, hr⟩ := hr _ hi
  refine rep_one hr v (List.mem_iff_getElem?.2 ⟨j % k.sz, ?_⟩)
  rw [List.getElem?_take, if_pos (Nat.mod_lt _ hpos), List.getElem?_drop, ← hj]
  congr 1
  have := Nat.div_add_mod j k.sz
  rw [Nat.mul_comm] at this; omega

theorem seg_list {cs : Array Value} {o n i sz : Nat} (h : (i + 1) * sz ≤ n) : ((seg cs o n).drop (i * sz)).take sz = seg cs (o + i * sz) sz := by
  rw [Nat.add_mul] at h
  exact seg_seg (by omega)

theorem src_ok (S : Sat own0 w0 st a w β col) {k : Kind} {y : AV} {vy : Value} {ys : List k.den} {ms : List Nat} (hy : vrel st.heap β col w y vy) (h : appSrc st.heap k y = some (ys, ms)) :
    (∃ L, Src w col k ys ms vy L) ∧ ∀ m ∈ ms, ∃ s, rowsOf st.heap m = some s := by
  unfold appSrc at h
  split at h
  · rename_i s
    obtain rfl : vy = .string s := hy
    split at h
    · rename_i ys' hk
      cases h
      obtain ⟨e, he⟩ := rowK_ok hk
      cases he
      have hlen : (bytesL s).length = s.size := by simp [bytesL]
      have hex : s.extract 0 s.size = s := by simp
      refine ⟨⟨s.data.toList.map fun b => Value.int .u8 b.toNat, ⟨by rw [hlen]; rfl, fun f hw => ?_, by simp [bytesL, Kind.sz], fun i hi => ?_, fun i hi => trivial, .inl rfl, ?_⟩⟩, fun m hm => by cases hm⟩
      · rw [hlen]
        show (f (((s.extract 0 s.size).data.map fun b => Value.int .u8 b.toNat))).run _ _ = _
        rw [hex]
        congr 2
        apply Array.ext'; simp
      · simp only [bytesL, List.length_map] at hi
        show _ = _
        simp only [Kind.sz, Nat.mul_one]
        rw [List.drop_eq_getElem_cons (by simpa using hi)]
        simp [bytesL]
      · intro v hv
        obtain ⟨b, _, rfl⟩ := List.mem_map.1 hv
        rfl
    · cases h
  · split at h
    · rename_i s hs
      split at h
      · rename_i ys' hk
        obtain ⟨e, rfl⟩ := rowK_ok hk
        obtain ⟨A, c, rfl, hc, hcells⟩ := readSl_cells S hy hs
        simp only at hc hcells
        let L := if ys'.length * k.sz = 0 then [] else cellsVal w k.sz ys'.length (.slice A ys'.length c)
        have hrun : ∀ {P : Program} {w' : World} {α : Type} (f : Array Value → Sem α), w'.heap = w.heap → (Builtin.firstCells k.sz ys'.length (.slice A ys'.length c) >>= f).run P w' = (f L.toArray).run P w' := fun f hw =>
          run_cellsVal (W := w) (by
            rcases hcells with h | ⟨g, o, cs, e', fz, h1, h2, h3, _⟩
            · left; rw [h]; rfl
            · exact .inr ⟨g, o, cs, e', fz, h1, h2, h3⟩) (Nat.le_refl _) hw f
        have hpos := sz_pos k
        have hL : ∀ g o cs e' fz, ys' ≠ [] → A = some ⟨g, o, none⟩ → w.heap[g]? = some (.cells cs e' fz) → L = seg cs o (ys'.length * k.sz) := by
          intro g o cs e' fz hne hA hw
          have : ys'.length * k.sz ≠ 0 := by
            have : 0 < ys'.length := List.length_pos_iff.2 hne
            exact Nat.ne_of_gt (Nat.mul_pos this hpos)
          simp only [L, if_neg this, hA, cellsVal, hw]
        have hnil : ys' = [] → L = [] := fun h => by simp [L, h]
        have hsize : L.length = ys'.length * k.sz := by
          rcases hcells with h | ⟨g, o, cs, e', fz, h1, h2, h3, _⟩
          · rw [hnil h, h]; simp
          · by_cases hne : ys' = []
            · rw [hnil hne, hne]; simp
            · rw [hL g o cs e' fz hne h1 h2, seg_len h3]
        have hexz : ∀ i, ∀ h : i < ys'.length, ∃ Z, rep w Z k ys'[i] ((L.drop (i * k.sz)).take k.sz) := fun i hi => by
          rcases hcells with h | ⟨g, o, cs, e', fz, h1, h2, h3, h4⟩
          · rw [h] at hi; cases hi
          · rw [hL g o cs e' fz (by rintro rfl; cases hi) h1 h2, seg_list (Nat.mul_le_mul_right _ hi)]
            exact h4 i hi
        rcases cn_or h with ⟨hf, h1⟩ | ⟨hf, h1⟩
        · simp only [Option.some.injEq, Prod.mk.injEq] at h1
          obtain ⟨h2, rfl⟩ := h1
          subst h2
          exact ⟨⟨L, rfl, hrun, hsize, fun i hi => by obtain ⟨Z, hr⟩ := hexz i hi; exact rep_flat hf hr, fun i hi => inK_flat hf, .inl hf, reps_one hsize hexz⟩, fun m hm => by cases hm⟩
        · split at h1
          · rename_i m _
            simp only [Option.some.injEq, Prod.mk.injEq] at h1
            obtain ⟨h2, rfl⟩ := h1
            subst h2
            have hrow : rowsOf st.heap m = some ⟨e, k, ys'⟩ := by
              simp only [readSl] at hs
              split at hs
              · rename_i e2 k2 xs2 h2; cases hs; exact rowOf_of h2
              · cases hs
            refine ⟨⟨L, rfl, hrun, hsize, fun i hi => ?_, fun i hi => ?_, ?_, reps_one hsize hexz⟩, fun m' hm' => by simp at hm'; subst hm'; exact ⟨_, hrow⟩⟩
            all_goals
              obtain ⟨A', c', hA', hc', hb⟩ := ref_row hy hrow
              cases hA'
              have hR := rowRel S hrow
              unfold rootRel at hR
              simp only at hR hb
            · cases hβ : β m with
              | none => rw [hβ] at hR; simp only at hR; rw [hR] at hi; cases hi
              | some b =>
                rw [hβ] at hR hb
                obtain ⟨cs, fz, k1, k2, k3, k4, k5, k6, k7⟩ := hR
                have hA : A = some ⟨b.g, b.o + 0 * k.sz, none⟩ := hb.1.resolve_left (by omega)
                have := k6 i hi
                rw [hL b.g _ cs e fz (by rintro rfl; cases hi) hA k2, seg_list (Nat.mul_le_mul_right _ hi)]
                rw [show b.o + 0 * k.sz + i * k.sz = b.o + i * k.sz by simp]
                exact rep_mono (fun g ob hg hob => ⟨⟨m, by simp, hg⟩, hob⟩) this
            · cases hβ : β m with
              | none => rw [hβ] at hR; simp only at hR; rw [hR] at hi; cases hi
              | some b =>
                rw [hβ] at hR hb
                obtain ⟨cs, fz, k1, k2, k3, k4, k5, k6, k7⟩ := hR
                have hA : A = some ⟨b.g, b.o + 0 * k.sz, none⟩ := hb.1.resolve_left (by omega)
                have := (k7.resolve_left (by rw [hf]; simp)).2 i hi
                rw [hL b.g _ cs e fz (by rintro rfl; cases hi) hA k2, seg_list (Nat.mul_le_mul_right _ hi)]
                rw [show b.o + 0 * k.sz + i * k.sz = b.o + i * k.sz by simp]
                exact inK_mono (fun g ob hg hob => ⟨⟨m, by simp, hg⟩, hob⟩) this
            · right
              by_cases hne : ys' = []
              · rw [hnil hne]; exact ⟨List.nodup_nil, fun g hg => by cases hg⟩
              · cases hβ : β m with
                | none => rw [hβ] at hR; exact absurd hR hne
                | some b =>
                  rw [hβ] at hR hb
                  obtain ⟨cs, fz, k1, k2, k3, k4, k5, k6, k7⟩ := hR
                  have : 0 < ys'.length := List.length_pos_iff.2 hne
                  have hA : A = some ⟨b.g, b.o + 0 * k.sz, none⟩ := hb.1.resolve_left (by omega)
                  rw [hL b.g _ cs e fz hne hA k2]
                  rw [show b.o + 0 * k.sz = b.o by simp]
                  have k8 := k7.resolve_left (by rw [hf]; simp)
                  exact ⟨k8.1, fun g hg => ⟨m, by simp, rows_inner (w := w) (col := col) k6 k8.2 hg⟩⟩
          · simp only [Option.some.injEq, Prod.mk.injEq] at h1
            obtain ⟨h2, rfl⟩ := h1
            subst h2
            have hnil2 : ys' = [] := by
              simp only [readSl] at hs; cases hs; rfl
            refine ⟨⟨L, rfl, hrun, hsize, fun i hi => (by rw [hnil2] at hi; cases hi), fun i hi => (by rw [hnil2] at hi; cases hi), .inr ⟨by rw [hnil hnil2]; exact List.nodup_nil, fun g hg => (by rw [hnil hnil2] at hg; cases hg)⟩, reps_one hsize hexz⟩, fun m hm => by cases hm⟩
          · cases h1
      · cases h
    · cases h
end
end Go.Proofs.YtlkbmcmglkdciaaE
