/- A contract of a function of the library, for the executor. No condition. -/
import Derived.Test.YtlkbmcmglkdciaaRB
import Derived.Test.YtlkbmcmglkdciaaShelf
set_option linter.unusedVariables false
set_option linter.unusedSimpArgs false
namespace Go.Proofs.Ytlkbmcmglkdciaa
open Go Go.RowKit Go.Proofs.YtlkbmcmglkdciaaE Go.Sort Go.Lib
abbrev heldK : Kind := .pair (.int .i64) (.int .i64)
abbrev sortS : Sig := ⟨69, [], [.chg, .val], [.one (.row 49 heldK), .one (.fn 70)], [], [.rows 49 heldK], []⟩
/-- A room's two cells. -/
def encH (x : Int × Int) : List Value := [.int .i64 x.1, .int .i64 x.2]
def cmpH (x y : Int × Int) : Int := Lib.compareInt x.1 y.1
theorem ltH (x y : Int × Int) : ltOf cmpH x y = decide (x.1 < y.1) := by
  unfold ltOf cmpH Lib.compareInt
  by_cases h1 : x.1 < y.1
  · simp [h1]
  · by_cases h2 : y.1 < x.1 <;> simp [h1, h2]
theorem swoH : SWO (ltOf cmpH) where
  irrefl x := by rw [ltH]; simp
  trans x y z h1 h2 := by rw [ltH] at *; simp at *; omega
  ntrans x y z h1 h2 := by rw [ltH] at *; simp at *; omega
set_option maxHeartbeats 1000000 in
theorem closureH (x y : Int × Int) (W : World) : Calls Try.prog 70 #[.agg #[.int .i64 x.1, .int .i64 x.2], .agg #[.int .i64 y.1, .int .i64 y.2]] W fun e w' => e = .returned (.int .i64 (cmpH x y)) ∧ ∃ q os', w' = grow (W.drewN q) os' := by
  have hcon := fun W' => AnyG.cmp_Compare_int Try.cmpInt x.1 y.1 W'
  change ∀ W', Calls Try.prog 71 _ _ _ at hcon
  unfold cmpH
  generalize Lib.compareInt x.1 y.1 = r at hcon ⊢
  go_enter Try.func70, Try.ntmps70
  go_wp2_with (go_at_call 71; refine (hcon _).mono ?_; rintro e w' ⟨rfl, rfl⟩)
  go_ret
  exact ⟨rfl, 0, _, by rw [alloc_eq_grow, alloc_eq_grow, grow_grow]; rfl⟩
theorem cmpLaysH (blk off size : Nat) (w : World) : CmpLays Try.prog 70 #[] encH 2 cmpH blk off size w :=
  fun _ _ _ _ x y => closureH x y _

/-- What stands there sorted. -/
noncomputable def sortF (xs : List (Int × Int)) : Option (Unit × List (Int × Int)) := gd (decide (xs.length ≤ 1073741824)) (some ((), (pdq (ltOf cmpH) xs.toArray 0 xs.length (Lib.bitLen xs.length) true true).toList))
theorem sorted_facts (xs : List (Int × Int)) : (pdq (ltOf cmpH) xs.toArray 0 xs.length (Lib.bitLen xs.length) true true).toList.Perm xs ∧ (pdq (ltOf cmpH) xs.toArray 0 xs.length (Lib.bitLen xs.length) true true).toList.Pairwise (fun a b => a.1 ≤ b.1) := by
  obtain ⟨⟨h1, _, h2⟩, h3⟩ := pdq_sorts (ltOf cmpH) swoH xs.toArray 0 xs.length (Lib.bitLen xs.length) true true (Nat.zero_le _) (by simp) (.inl rfl)
  generalize pdq (ltOf cmpH) xs.toArray 0 xs.length (Lib.bitLen xs.length) true true = d at h1 h2 h3
  simp only [List.size_toArray] at h1
  constructor
  · have e1 : d.extract 0 xs.length = d := by rw [← h1]; simp
    have e2 : xs.toArray.extract 0 xs.length = xs.toArray := by rw [show xs.length = xs.toArray.size by simp]; exact Array.extract_size
    rw [e1, e2] at h2
    simpa using h2
  · rw [List.pairwise_iff_getElem]
    intro i j hi hj hij
    have := h3 i j (Nat.zero_le _) hij (by simp at hj; omega)
    rw [ltH] at this
    simp at hi hj
    rw [getElem!_pos d i (by omega), getElem!_pos d j (by omega)] at this
    simp only [decide_eq_false_iff_not, Int.not_lt] at this
    simpa using this

theorem holdsH {H : List Root} {β : Bs} {col : Col} {w : World} {xs : List (Int × Int)} {b : Base} {cs : Array Value} {fz : Nat × Nat} (R : RowIn H β col w 49 heldK xs b cs fz) : HoldsK encH 2 w b.g b.o xs.toArray := by
  intro j hj
  rw [size_flatK] at hj
  simp only [List.size_toArray] at hj
  rw [get_flatK _ _ _ _ (by simpa using hj)]
  have hi : j / 2 < xs.length := by omega
  have he := R.els (j / 2) hi
  have hsz : heldK.sz = 2 := rfl
  rw [hsz] at he
  have hfits := R.fits
  rw [hsz] at hfits
  have hc : cs[b.o + j]? = some ((encH xs[j / 2])[j % 2]!) := by
    have h1 := seg_get (cs := cs) (o := b.o + j / 2 * 2) (s := 2) (j := j % 2) (by omega)
    rw [show b.o + j / 2 * 2 + j % 2 = b.o + j by omega] at h1
    rw [← h1, he]
    have : (encK heldK xs[j / 2]) = encH xs[j / 2] := rfl
    rw [this]
    have h2 : j % 2 < (encH xs[j / 2]).length := by show j % 2 < 2; omega
    rw [List.getElem?_eq_getElem h2, getElem!_pos (encH xs[j / 2]) (j % 2) h2]
  constructor
  · simp only [World.cell?, R.here, Option.isSome_none]
    simpa [getElem!_pos xs.toArray (j / 2) (by simpa using hi)] using hc
  · simp only [World.frozen?, R.here]
    have := R.unf (b.o + j) (by omega)
    simp only [Bool.and_eq_false_iff, decide_eq_false_iff_not]
    omega

theorem sort_run (xs : List (Int × Int)) (d : Unit × List (Int × Int)) (args : Array Value) (w : World) (β : Bs) (col : Col) (hF : sortF xs = some d)
    (hv : vrels [.dead, .rows 49 heldK xs] β col w [.ref 1, .fn 70] args.toList) (hroots : ∀ n r, getN [.dead, .rows 49 heldK xs] n = some r → rootRel [.dead, .rows 49 heldK xs] β col w n r) (hcol : ∀ g, col g ≠ none → g < w.heap.size) :
    Calls Try.prog 69 args w fun e w' => ∃ v β' col', e = .returned v ∧ Mem (ownOf [.dead, .rows 49 heldK xs] 2 β col) w [.dead, .rows 49 heldK d.2] 2 β' col' w' ∧ v = .tuple #[] := by
  unfold sortF at hF
  cases hc : decide (xs.length ≤ 1073741824) with
  | false => rw [hc] at hF; cases hF
  | true =>
  rw [hc] at hF
  have hlen := of_decide_eq_true hc
  have hF : some ((), (pdq (ltOf cmpH) xs.toArray 0 xs.length (Lib.bitLen xs.length) true true).toList) = some d := hF
  cases hF
  clear hc
  match hargs : args.toList, hv with
  | [v1, v2], hv =>
    have hargs' : args = #[v1, v2] := by apply Array.ext'; exact hargs
    subst hargs'
    obtain rfl : v2 = .func (.func 70) #[] #[] := hv.2.1
    obtain ⟨A, c, rfl, hc, hb⟩ := row_in (k := heldK) rfl (hroots 1 _ rfl) rfl hv.1
    rcases hb with ⟨hβ, rfl, rfl⟩ | ⟨b, cs, fz, R, hA, hS⟩
    · refine (AnyF.slices_SortFunc_none Try.sortHeld A 0 _ w).mono fun e w' hp => ?_
      obtain ⟨rfl, rfl⟩ := hp
      refine ⟨_, β, col, rfl, ?_, rfl⟩
      have hn : (pdq (ltOf cmpH) ([] : List (Int × Int)).toArray 0 ([] : List (Int × Int)).length (Lib.bitLen ([] : List (Int × Int)).length) true true).toList = [] := List.Perm.eq_nil (sorted_facts []).1
      rw [hn]
      exact mem_below hroots rfl hcol rfl rfl rfl (Nat.le_refl _) fun g _ => rfl
    · by_cases h0 : xs = []
      · subst h0
        refine (AnyF.slices_SortFunc_none Try.sortHeld A c _ w).mono fun e w' hp => ?_
        obtain ⟨rfl, rfl⟩ := hp
        refine ⟨_, β, col, rfl, ?_, rfl⟩
        have hn : (pdq (ltOf cmpH) ([] : List (Int × Int)).toArray 0 ([] : List (Int × Int)).length (Lib.bitLen ([] : List (Int × Int)).length) true true).toList = [] := List.Perm.eq_nil (sorted_facts []).1
        rw [hn]
        exact mem_below hroots rfl hcol rfl rfl rfl (Nat.le_refl _) fun g _ => rfl
      · have hl : xs.length ≠ 0 := fun h => h0 (List.eq_nil_of_length_eq_zero h)
        have hA := hA.resolve_left (by omega)
        subst hA
        have hbs : b.g < w.heap.size := (Array.getElem?_eq_some_iff.1 R.here).1
        have eg : ∀ args w, (callFunc 70 args).run Try.prog w = .ok (.enter 70 args) w := enters_of Try.func70 (by kernel_rfl) rfl
        have hcon := AnyQ.slices_SortFunc_eq Try.sortHeld 2 Try.isAgg49 Try.sizeOf49 encH (fun _ => rfl) (fun x v hv => by simp [encH] at hv; rcases hv with rfl | rfl <;> rfl) cmpH swoH 70 #[] b.g b.o c xs.toArray w eg (cmpLaysH b.g b.o _ w) (holdsH R) hbs (by simp; omega)
        simp only [List.size_toArray] at hcon
        refine hcon.mono fun e w' hp => ?_
        obtain ⟨rfl, n, os, rfl⟩ := hp
        have hperm := (sorted_facts xs).1
        generalize hd : pdq (ltOf cmpH) xs.toArray 0 xs.length (Lib.bitLen xs.length) true true = d at hperm
        have hdl : d.size = xs.length := by have := hperm.length_eq; simpa using this
        refine ⟨_, β, col, rfl, ?_, rfl⟩
        have hwb : ∀ g, (sortWorldK encH 2 w b.g b.o n d os).heap[g]? = if g < w.heap.size then (if g = b.g then some (Obj.cells (putCells id b.o (flatK encH 2 d) cs) 49 fz) else w.heap[g]?) else (sortWorldK encH 2 w b.g b.o n d os).heap[g]? := fun g => by
          by_cases hg : g < w.heap.size
          · rw [if_pos hg]
            have e1 : (sortWorldK encH 2 w b.g b.o n d os).heap[g]? = (putRowK encH 2 (Sort.ahead w n) b.g b.o d).heap[g]? := by
              show ((putRowK encH 2 (Sort.ahead w n) b.g b.o d).heap ++ os)[g]? = _
              rw [Array.getElem?_append_left]
              show g < (w.heap.modify b.g _).size
              simpa using hg
            rw [e1]
            show (w.heap.modify b.g _)[g]? = _
            rw [Array.getElem?_modify]
            by_cases e : b.g = g
            · subst e
              rw [if_pos rfl, if_pos rfl, R.here]; rfl
            · rw [if_neg e, if_neg (Ne.symm e)]
          · rw [if_neg hg]
        refine mem_row (cs' := putCells id b.o (flatK encH 2 d) cs) rfl R hcol rfl rfl rfl ?_ (fun g hg hne => by rw [hwb g, if_pos hg, if_neg hne]) (by rw [hwb, if_pos hbs, if_pos rfl]) (by simp [putCells]) (fun i hi => ?_) (by have := R.fits; simp [hdl] at *; omega) (.inr ⟨rfl, by simp [hdl]⟩)
        · show w.heap.size ≤ ((putRowK encH 2 (Sort.ahead w n) b.g b.o d).heap ++ os).size
          have : (putRowK encH 2 (Sort.ahead w n) b.g b.o d).heap.size = w.heap.size := by
            show (w.heap.modify b.g _).size = _
            simp
          simp [this]
        · have hi' : i < d.size := by simpa using hi
          have hsz : heldK.sz = 2 := rfl
          have hfits := R.fits
          rw [hsz] at hfits ⊢
          apply List.ext_getElem?
          intro j
          by_cases hj : j < 2
          · rw [seg_get hj]
            have e1 : (putCells id b.o (flatK encH 2 d) cs)[b.o + i * 2 + j]? = some ((flatK encH 2 d)[i * 2 + j]!) := by
              unfold putCells
              rw [Array.getElem?_mapIdx, Array.getElem?_eq_getElem (by omega)]
              simp only [Option.map_some, size_flatK]
              rw [if_pos (by omega), show b.o + i * 2 + j - b.o = i * 2 + j by omega]; rfl
            rw [e1, get_flatK _ _ _ _ (by omega), show (i * 2 + j) / 2 = i by omega, show (i * 2 + j) % 2 = j by omega, getElem!_pos d i hi']
            have h2 : j < (encH d[i]).length := hj
            rw [getElem!_pos _ j h2]
            have : encK heldK (d.toList[i]) = encH d[i] := by simp; rfl
            rw [this, List.getElem?_eq_getElem h2]
          · rw [List.getElem?_eq_none (by simp [YtlkbmcmglkdciaaE.seg]; omega), List.getElem?_eq_none (by rw [enc_len _ rfl]; show 2 ≤ j; omega)]
theorem sort_ctr : CtrOk Try.prog 69 (sortS.ctr fun x => sortF x.1) := by
  refine CtrOk.of rfl (good_ex (s := sortS) (by kernel_rfl)) fun ts d args w β col hd hv hroots hcol => ?_
  have hd' : (getSs sortS.as ts).bind (fun x => sortF x.1) = some d := hd
  cases hx : getSs sortS.as ts with
  | none => rw [hx] at hd'; cases hd'
  | some p =>
  rw [hx] at hd'
  have hts : ts = [.row 49 heldK p.1, .fn 70] := (putSs_get hx).symm
  subst hts
  refine (sort_run p.1 d args w β col hd' hv hroots hcol).mono fun e w' hp => ?_
  obtain ⟨v, β', col', h1, h2, h3⟩ := hp
  exact ⟨v, β', col', h1, h2, rfl, _, h3, trivial⟩
end Go.Proofs.Ytlkbmcmglkdciaa
