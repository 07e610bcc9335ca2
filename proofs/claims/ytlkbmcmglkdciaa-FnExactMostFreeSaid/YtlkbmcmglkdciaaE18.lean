/- Conversions, lengths, literals, least and greatest. No condition. -/
import Derived.Test.YtlkbmcmglkdciaaE17
set_option linter.unusedVariables false
set_option linter.unusedSectionVars false
set_option linter.unusedSimpArgs false
namespace Go.Proofs.YtlkbmcmglkdciaaE
open Go Go.RowKit

section
variable {own0 : Own} {w0 W : World} {st : St} {a : Act} {w : World} {β : Bs} {col : Col} {P : Program} {o : Oper}

theorem Does.value' (S : Sat own0 w0 st a w β col) {v : AV} {st' : St} {s : Sem Value} (he : execOp a.eval o = (do pure (Next.value (← s))))
    (h : ∃ r w' β' col', s.run P w = .ok r w' ∧ Sat own0 w0 st' a w' β' col' ∧ vrel st'.heap β' col' w' v r ∧ Below w.heap.size w w') : Does P own0 w0 o a w β col st v st' := by
  obtain ⟨r, w', β', col', h1, h2, h3⟩ := h
  exact ⟨r, w', β', col', .inl (by rw [he]; exact run_value h1), h2, h3.1, fun q _ => BelowQ.of h3.2 q⟩

theorem modify_push (h : Array Obj) (x : Obj) (f : Obj → Obj) : (h.push x).modify h.size f = h.push (f x) := by
  apply Array.ext
  · simp
  · intro j h1 h2
    rw [Array.getElem_modify, Array.getElem_push, Array.getElem_push]
    have : j < h.size + 1 := by simpa using h2
    by_cases hj : j < h.size
    · rw [if_neg (by omega)]
      simp [hj]
    · have : h.size = j := by omega
      rw [if_pos this]
      simp [hj]
theorem do_conv (S : Sat own0 w0 st a w β col) {s d : Nat} {x : Operand} (ho : o.op = .convert s d x) {v : AV} {st' : St} (h : stepX P o st = some (true, v, st')) :
    Does P own0 w0 o a w β col st v st' := by
  unfold stepX at h
  rw [ho] at h
  simp only at h
  split at h
  case h_2 => cases h
  rename_i p hp
  have hx := ev_ok S hp
  refine Does.value' S (s := convert s d (a.eval x)) (by unfold execOp; rw [ho]) ?_
  unfold stConv at h
  split at h
  · rename_i k0 k k1 n hs hd
    obtain ⟨_, rfl, rfl⟩ := ok1_eq h
    have hx : a.eval x = .int k1 n := hx
    refine ⟨_, w, β, col, ?_, S, rfl, Below.refl _ _⟩
    unfold convert
    rw [run_und hs, run_und hd, hx]
    rfl
  · rename_i e str hs hd
    split at h
    · rename_i he
      obtain ⟨h1, h2⟩ := cn_some h
      have hsz := Nat.eq_of_beq_eq_true h1
      simp only [Option.some.injEq, Prod.mk.injEq, decide_eq_true_eq] at h2
      obtain ⟨h3, rfl, rfl⟩ := h2
      have hx : a.eval x = .string str := hx
      let W1 : World := { w with drawn := w.drawn + 1 }
      let cap := str.size + (w.tape w.drawn (.appendCap str.size 0 e)) % (2 ^ 63 - str.size)
      let cs : Array Value := (str.data.map fun b => Value.int .u8 b.toNat) ++ Array.replicate (cap - str.size) (.int .u8 0)
      have hcs : cs.size = cap := by
        have : str.data.size = str.size := rfl
        simp [cs, this, cap]
      let w' : World := World.with W1 (.cells cs e (cap, cap + 1))
      have hg : Grew w w' (.cells cs e (cap, cap + 1)) := ⟨rfl, rfl, rfl, rfl⟩
      have hlen : (bytesL str).length = str.size := by simp [bytesL]
      obtain ⟨β', col', S', hk, hv⟩ := S.pushRow (e := e) (k := .int .u8) (xs := bytesL str) (cs := cs) hg (fun j hj hh => by rw [hcs] at hj; simp at hh; omega) (by rw [hlen, hcs]; simp [Kind.sz, cap])
        (fun col' _ i hi => by
          rw [hlen] at hi
          have hi2 : i < str.data.size := hi
          show seg cs (i * 1) 1 = [Value.int .u8 _]
          apply List.ext_getElem?
          intro j
          cases j with
          | zero =>
            rw [seg_get (by omega)]
            simp [cs, Array.getElem?_append, hi, Array.getElem?_eq_getElem hi2, bytesL]
          | succ j =>
            rw [List.getElem?_eq_none (by simp [seg]; omega), List.getElem?_eq_none (by simp)])
        (fun _ _ => .inl rfl)
      refine ⟨_, w', β', col', ?_, S', hv cap (by rw [hlen]; simp [cap]) (by rw [hcs]; simp [Kind.sz]), hg.below⟩
      unfold convert
      rw [run_und hs, run_und hd, hx]
      simp only
      rw [run_und he]
      simp only
      unfold Conv.stringToBytes
      have hch : (choose (.appendCap str.size 0 e)).run P w = .ok cap W1 := by
        simp [choose, Sem.run, Question.forced, Question.cut, cap, W1]
      rw [run_then hch, run_then (run_newRow W1)]
      have hms : (markStringish ⟨W1.heap.size, 0, none⟩).run P (World.with W1 (.cells cs e)) = .ok () w' := by
        have hsh : (World.with W1 (.cells cs e)).shape? W1.heap.size = some (e, cs.size) := by
          show (match (W1.heap.push (.cells cs e))[W1.heap.size]? with | some (.cells c elem _) => some (elem, c.size) | _ => none) = _
          rw [Array.getElem?_push_size]
        have hfr : (World.with W1 (.cells cs e)).freeze ⟨W1.heap.size, cs.size, none⟩ 1 = w' := by
          unfold World.freeze
          rw [if_neg (by decide), hcs]
          show World.mk _ _ _ _ _ = World.mk _ _ _ _ _
          congr 1
          exact modify_push _ _ _
        unfold markStringish
        show (shape W1.heap.size >>= _).run P _ = _
        rw [run_then (s := shape W1.heap.size) (r := some (e, cs.size)) (w' := World.with W1 (.cells cs e)) (by simp only [shape, Sem.run, hsh])]
        show Result.ok () ((World.with W1 (.cells cs e)).freeze ⟨W1.heap.size, cs.size, none⟩ 1) = _
        rw [hfr]
      rw [run_then hms]
      rw [hlen]
      rfl
    · cases h
  · rename_i e hs hd
    split at h
    · rename_i sl he hrd
      split at h
      · rename_i xs hk
        obtain ⟨_, rfl, rfl⟩ := ok1_eq h
        obtain ⟨e', rfl⟩ := rowK_ok hk
        obtain ⟨A, c, hA, hc, hcells⟩ := readSl_cells S hx hrd
        simp only at hA hc hcells
        refine ⟨_, w, β, col, ?_, S, rfl, Below.refl _ _⟩
        rw [hA]
        by_cases he0 : xs = []
        · subst he0
          cases A with
          | none => exact run_convert_bytes_nil w s e hs he 0 c d hd
          | some ad =>
            have := run_convert_bytes_string (P := P) w s d e (some ad) 0 c hs he hd
            rw [show (List.length ([] : List (Kind.int .u8).den)) = 0 from rfl, this]
            simp [Conv.bytesToString, loadCells, loadCellsFrom]
            rfl
        · rcases hcells with h | ⟨g, o', cs, e2, fz, rfl, hw, hl, hel⟩
          · exact absurd h he0
          · refine run_convert_bytes_arg w s e hs he g o' _ c xs rfl (fun i hi => ?_) d hd
            obtain ⟨Z, hr⟩ := hel i hi
            have hr : seg cs (o' + i * 1) 1 = [Value.int .u8 xs[i]] := hr
            rw [cell_at hw]
            have := seg_get (cs := cs) (o := o' + i * 1) (s := 1) (j := 0) (by omega)
            rw [hr] at this
            simp only [List.getElem?_cons_zero, Nat.mul_one, Nat.add_zero] at this
            rw [← this]
            simp [List.getD, hi]
      · cases h
    · cases h
  · cases h

theorem do_convInt (S : Sat own0 w0 st a w β col) {s d : Nat} {x : Operand} {kd : IntKind} (ho : o.op = .convert s d x) (hk : P.underlying d = some (.int kd)) {v : AV} {st' : St} (h : stepX P o st = some (true, v, st')) :
    DoesP P own0 w0 o a w β col st v st' := by
  unfold stepX at h
  rw [ho] at h
  simp only at h
  split at h
  case h_2 => cases h
  rename_i p hp
  have hx := ev_ok S hp
  refine Does.value S (s := convert s d (a.eval x)) (by unfold execOp; rw [ho]) ?_
  unfold stConv at h
  rw [hk] at h
  split at h
  · rename_i k0 k k1 n hs hd
    cases hd
    obtain ⟨_, rfl, rfl⟩ := ok1_eq h
    have hx : a.eval x = .int k1 n := hx
    refine ⟨rfl, _, fun w2 _ => ?_, rfl⟩
    unfold convert
    rw [run_und hs, run_und hk, hx]
    rfl
  · rename_i hd; cases hd
  · rename_i hd; cases hd
  · cases h

theorem do_len (S : Sat own0 w0 st a w β col) {x : Operand} {t : Nat} {ts : List Nat} {args : Array Operand} {tys : Array Nat} (ho : o.op = .call { callee := .builtin .len, args := args, argTypes := tys }) (ha : args.toList = [x]) (ht : tys.toList = t :: ts)
    {v : AV} {st' : St} (h : (match P.underlying t, ev st x with
      | some .string, some (.str s) => ok1 (.int .i64 (s.size : Int)) st
      | some (.slice _), some v => match lenOf st.heap v with | some n => ok1 (.int .i64 (n : Int)) st | none => none
      | _, _ => none) = some (true, v, st')) : DoesP P own0 w0 o a w β col st v st' := by
  have ha' : args = #[x] := by cases args; simp_all
  have ht' : tys = (t :: ts).toArray := by cases tys; simp_all
  subst ha' ht'
  split at h
  · rename_i s hu hx
    obtain ⟨_, rfl, rfl⟩ := ok1_eq h
    have hx : a.eval x = .string s := ev_ok S hx
    refine ⟨rfl, _, fun w2 _ => (run_builtin ho (by simp only [Go.builtin, List.map_toArray, List.map_cons, List.map_nil]) (s := Builtin.len_ (t :: ts).toArray o.type #[a.eval x]) (r := .int .i64 (s.size : Int)) ?_), rfl⟩
    rw [hx]
    show (underlying t >>= _).run P w2 = _
    rw [run_und hu]; rfl
  · rename_i e p hu hx
    split at h
    · rename_i n hn
      obtain ⟨_, rfl, rfl⟩ := ok1_eq h
      obtain ⟨A, c, hA⟩ := lenOf_ok S (ev_ok S hx) hn
      refine ⟨rfl, _, fun w2 _ => (run_builtin ho (by simp only [Go.builtin, List.map_toArray, List.map_cons, List.map_nil]) (s := Builtin.len_ (t :: ts).toArray o.type #[a.eval x]) (r := .int .i64 (n : Int)) ?_), rfl⟩
      rw [hA]
      show (underlying t >>= _).run P w2 = _
      rw [run_und hu]; rfl
    · cases h
  · cases h

theorem andS_true {b : Bool} {s : Stp} {v : AV} {st' : St} (h : andS b s = some (true, v, st')) : b = true ∧ s = some (true, v, st') := by
  unfold andS at h
  split at h
  · simp only [Option.some.injEq, Prod.mk.injEq, Bool.and_eq_true] at h
    obtain ⟨⟨h1, h2⟩, h3, h4⟩ := h
    subst h1 h2 h3 h4; exact ⟨rfl, rfl⟩
  · cases h
theorem stApp_room {P : Program} {e n : Nat} {k : Kind} {ys : List k.den} {ms : List Nat} {st st' : St} {v : AV} (h : stApp P e k ys ms n st = some (true, v, st')) : ys.length * P.bytesOf e ≤ 2 ^ 46 := by
  unfold stApp at h
  split at h
  case h_2 => cases h
  split at h
  case h_2 => cases h
  obtain ⟨_, h2⟩ := cn_some h
  simp only [Option.some.injEq, Prod.mk.injEq] at h2
  obtain ⟨h3, _, _⟩ := h2
  simp only [appOk, Bool.and_eq_true, decide_eq_true_eq] at h3
  exact Nat.le_trans (Nat.mul_le_mul_right (P.bytesOf e) (Nat.le_add_left ys.length _)) h3.2
theorem do_append (S : Sat own0 w0 st a w β col) {x y : Operand} {t t' : Nat} {args : Array Operand} {tys : Array Nat} (ho : o.op = .call { callee := .builtin .append, args := args, argTypes := tys }) (ha : args.toList = [x, y]) (ht : tys.toList = [t, t'])
    {v : AV} {st' : St} (h : (match ev st x, ev st y with
      | some x, some y => cn (appT P t') (stAppend P t x y st) (cn (appZT P t') (stAppZ P t x y st) none)
      | _, _ => none) = some (true, v, st')) : Does P own0 w0 o a w β col st v st' := by
  have ha' : args = #[x, y] := by cases args; simp_all
  have ht' : tys = #[t, t'] := by cases tys; simp_all
  subst ha' ht'
  split at h
  case h_2 => cases h
  rename_i p q hp hq
  have hx := ev_ok S hp
  have hy := ev_ok S hq
  have fin : (∃ r w' β' col', (Builtin.append_ #[t, t'] o.type #[a.eval x, a.eval y]).run P w = .ok r w' ∧ Sat own0 w0 st' a w' β' col' ∧ vrel st'.heap β' col' w' v r ∧ ∃ e, P.underlying t = some (.slice e) ∧ OldT e w w') → Does P own0 w0 o a w β col st v st' := by
    rintro ⟨r, w', β', col', r1, S', hv, e, he, hT⟩
    exact ⟨r, w', β', col', .inl (run_builtin ho (by simp only [Go.builtin, List.map_toArray, List.map_cons, List.map_nil]) (s := Builtin.append_ #[t, t'] o.type #[a.eval x, a.eval y]) r1), S', hv, fun q h => by
      have hw : wrOp o = true := by unfold wrOp; rw [ho]
      have ha : appE P o = some e := by unfold appE; rw [ho]; simp [he]
      unfold wrQ at h
      cases hq : qFree q with
      | true => exact .inl hq
      | false =>
      rw [hq] at h
      refine .inr ?_
      cases q with
      | none => simp only [cn] at h; rw [hw] at h; cases h
      | some u =>
        simp only [hw, ha, cn] at h
        refine ⟨hT.1, fun g cs fz hg => hT.2 g (Array.getElem?_eq_some_iff.1 hg).1 fun cs' fz' hg' => ?_⟩
        rw [hg] at hg'
        cases hg'
        simp [cn] at h⟩
  have fin' : ∀ {e : Nat}, P.underlying t = some (.slice e) → (∃ r w' β' col', (Builtin.append_ #[t, t'] o.type #[a.eval x, a.eval y]).run P w = .ok r w' ∧ Sat own0 w0 st' a w' β' col' ∧ vrel st'.heap β' col' w' v r ∧ OldT e w w') → Does P own0 w0 o a w β col st v st' := fun he ⟨r, w', β', col', r1, S', hv, hT⟩ => fin ⟨r, w', β', col', r1, S', hv, _, he, hT⟩
  rcases cn_or h with ⟨h1, h2⟩ | ⟨_, h2⟩
  case inr =>
    obtain ⟨h1, h2⟩ := cn_some h2
    unfold stAppZ at h2
    split at h2
    case h_2 => cases h2
    rename_i e k p' q n hs hre _
    obtain ⟨hu, hsz⟩ := slT_ok hs
    have hx := retype_ok hx hre
    split at h2
    case h_2 => cases h2
    rename_i k' zz hz
    split at h2
    case h_2 => cases h2
    rename_i hk _
    obtain ⟨hk⟩ := hk
    subst hk
    obtain ⟨hfl, h2⟩ := cn_some h2
    obtain ⟨h0, h2⟩ := andS_true h2
    have h0 := of_decide_eq_true h0
    obtain ⟨_, i, z, i1, i2, i3, i4, i5⟩ := zeroT_ok hz
    have hy' : a.eval y = .int q n := hy
    have hpos := sz_pos k'
    have hlen : ((List.replicate (IntKind.i64.wrap n).toNat k'.dflt)).length = (IntKind.i64.wrap n).toNat := by simp
    have src : SrcD w col k' (List.replicate (IntKind.i64.wrap n).toNat k'.dflt) [] (Builtin.zeroCells z.cells (IntKind.i64.wrap n).toNat).toList := by
      refine ⟨by simp [Builtin.zeroCells, i5], fun i hi => ?_, fun i hi => inK_flat hfl, .inl hfl, fun v hv => ?_⟩
      · rw [hlen] at hi
        rw [List.getElem_replicate]
        have := seg_made (zero := z.cells) (len := (IntKind.i64.wrap n).toNat) (i := i) (by omega) hi
        rw [i5] at this
        unfold seg at this
        simp only [Builtin.zeroCells, i5]
        rw [this]
        exact rep_zero i3
      · simp only [Builtin.zeroCells, Array.toList_map, List.mem_map] at hv
        obtain ⟨q, _, rfl⟩ := hv
        have hq : q % z.cells.size < z.cells.size := Nat.mod_lt _ (by omega)
        rw [getElem!_pos z.cells _ hq]
        exact rep_one (rep_zero (w := w) (Z := fun _ => True) (k := k') i3) _ (by simp)
    have hrun : (IntKind.i64.wrap n).toNat * P.bytesOf e ≤ 2 ^ 46 → AppRun P t t' e w (a.eval y) (List.replicate (IntKind.i64.wrap n).toNat k'.dflt).length (Builtin.zeroCells z.cells (IntKind.i64.wrap n).toNat).toList := fun hb => by
      rw [hlen, hy']
      exact run_appz hu (by omega) h1 i1 i2 (by omega) h0 hb
    split at h2
    · rename_i e' k2
      obtain ⟨β1, S1, hβ1, keep⟩ := S.pushNil e k'
      have hx1 : vrel (hpush st.heap (.rows e k' [])) β1 col w (.ref (lenN st.heap)) (a.eval x) := by
        rw [show a.eval x = .slice none 0 0 from hx, lenN_eq]
        exact ref_mk (s := ⟨e, k', []⟩) (rowOf_of (by rw [getN_push, if_neg (by omega), if_pos rfl])) ⟨none, 0, rfl, Nat.le_refl _, by rw [hβ1]; exact ⟨rfl, rfl⟩⟩
      exact fin' hu (stApp_ok S1 hu hsz (hrun (by have := stApp_room h2; rw [hlen] at this; exact this)) hz hx1 src (fun m hm => by cases hm) h2 o.type)
    · exact fin' hu (stApp_ok S hu hsz (hrun (by have := stApp_room h2; rw [hlen] at this; exact this)) hz hx src (fun m hm => by cases hm) h2 o.type)
    · cases h2
  unfold stAppend at h2
  split at h2
  case h_2 => cases h2
  rename_i e k p' hs hre
  obtain ⟨hu, hsz⟩ := slT_ok hs
  have hx := retype_ok hx hre
  split at h2
  case h_2 => cases h2
  rename_i k' zz ys ms hz hsrc
  split at h2
  case h_2 => cases h2
  rename_i hk _
  obtain ⟨hk⟩ := hk
  subst hk
  obtain ⟨⟨L, src⟩, hms⟩ := src_ok S hy hsrc
  split at h2
  · rename_i e' k2
    obtain ⟨β1, S1, hβ1, keep⟩ := S.pushNil e k'
    have hx1 : vrel (hpush st.heap (.rows e k' [])) β1 col w (.ref (lenN st.heap)) (a.eval x) := by
      rw [show a.eval x = .slice none 0 0 from hx, lenN_eq]
      exact ref_mk (s := ⟨e, k', []⟩) (rowOf_of (by rw [getN_push, if_neg (by omega), if_pos rfl])) ⟨none, 0, rfl, Nat.le_refl _, by rw [hβ1]; exact ⟨rfl, rfl⟩⟩
    refine fin' hu (stApp_ok S1 hu hsz (src.appRun hu hsz h1) hz hx1 src.d (fun m hm => ?_) h2 o.type)
    obtain ⟨s, hs⟩ := hms m hm
    exact ⟨s, rowOf_of (by rw [getN_push, if_pos (getN_lt (rowOf_get hs))]; exact rowOf_get hs)⟩
  · exact fin' hu (stApp_ok S hu hsz (src.appRun hu hsz h1) hz hx src.d hms h2 o.type)
  · cases h2

theorem do_minmax (S : Sat own0 w0 st a w β col) {b : Builtin} {x y : Operand} {args : Array Operand} {tys : Array Nat} (ho : o.op = .call { callee := .builtin b, args := args, argTypes := tys }) (ha : args.toList = [x, y])
    {v : AV} {st' : St} (h : (b = .min ∧ (match ev st x, ev st y with | some (.int k a), some (.int k' b) => cn (decide (k = k')) (ok1 (.int k (cn (decide (b < a)) b a)) st) none | _, _ => none) = some (true, v, st')) ∨
      (b = .max ∧ (match ev st x, ev st y with | some (.int k a), some (.int k' b) => cn (decide (k = k')) (ok1 (.int k (cn (decide (a < b)) b a)) st) none | _, _ => none) = some (true, v, st'))) : DoesP P own0 w0 o a w β col st v st' := by
  have ha' : args = #[x, y] := by cases args; simp_all
  subst ha'
  rcases h with ⟨rfl, h⟩ | ⟨rfl, h⟩
  · split at h
    · rename_i k n k' m h1 h2
      obtain ⟨h3, h4⟩ := cn_some h
      have := of_decide_eq_true h3
      subst this
      obtain ⟨_, rfl, rfl⟩ := ok1_eq h4
      have hx : a.eval x = .int k n := ev_ok S h1
      have hy : a.eval y = .int k m := ev_ok S h2
      refine ⟨rfl, _, fun w2 _ => (run_builtin ho (by simp only [Go.builtin, List.map_toArray, List.map_cons, List.map_nil]) (s := Builtin.min_ tys o.type #[a.eval x, a.eval y]) (r := .int k (cn (decide (m < n)) m n)) ?_), rfl⟩
      rw [hx, hy]
      show (Builtin.min2 _ _ >>= _).run P w2 = _
      by_cases hlt : m < n <;> simp [Builtin.min2, hlt, cn]
    · cases h
  · split at h
    · rename_i k n k' m h1 h2
      obtain ⟨h3, h4⟩ := cn_some h
      have := of_decide_eq_true h3
      subst this
      obtain ⟨_, rfl, rfl⟩ := ok1_eq h4
      have hx : a.eval x = .int k n := ev_ok S h1
      have hy : a.eval y = .int k m := ev_ok S h2
      refine ⟨rfl, _, fun w2 _ => (run_builtin ho (by simp only [Go.builtin, List.map_toArray, List.map_cons, List.map_nil]) (s := Builtin.max_ tys o.type #[a.eval x, a.eval y]) (r := .int k (cn (decide (n < m)) m n)) ?_), rfl⟩
      rw [hx, hy]
      show (Builtin.max2 _ _ >>= _).run P w2 = _
      by_cases hlt : n < m <;> simp [Builtin.max2, hlt, cn]
    · cases h
end
end Go.Proofs.YtlkbmcmglkdciaaE
