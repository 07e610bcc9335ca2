/- What comes in: a datum as it is read, in the executor's own kinds; from a contract to a law's row. No condition. -/
import Derived.Test.YtlkbmcmglkdciaaE35
import Derived.DataReads
import Derived.ProofKit
import Derived.OpenShut
import Derived.ChangeOld
import Derived.Below
set_option linter.unusedVariables false
set_option linter.unusedSectionVars false
set_option linter.unusedSimpArgs false
namespace Go.Proofs.YtlkbmcmglkdciaaE
open Go Go.RowKit

/-- What is known of a datum that came in: its numbers fit, its rows and texts are no longer than any. -/
def okK : (k : Kind) → k.den → Prop
  | .int ik, n => (Lit.int ik n).wf = true
  | .bool, _ => True
  | .str, s => s.size ≤ maxLen
  | .pair a b, x => okK a x.1 ∧ okK b x.2
  | .sl _ k, xs => List.length xs ≤ maxLen ∧ ∀ i, ∀ h : i < List.length xs, okK k xs[i]
/-- The program's own tables go with the kinds. -/
def fieldsOk (P : Program) (f : Nat → Bool) (g : Nat → Option Kind) : List Field → Nat → Nat → Bool
  | [], o, n => Nat.beq o n
  | x :: l, o, n => Nat.beq x.offset o && (f x.type && ((match g x.type with | some k => Nat.beq (P.cellsOf x.type) k.sz | none => false) && fieldsOk P f g l (o + P.cellsOf x.type) n))
def kindOk (P : Program) : Nat → Nat → Bool
  | 0, _ => false
  | d + 1, t =>
    match P.underlying t with
    | some (.int _) | some .bool | some .string => true
    | some (.slice e) => (match kindOf P d e with | some k => Nat.beq (P.cellsOf e) k.sz | none => false) && kindOk P d e
    | some (.struct fs) => fieldsOk P (kindOk P d) (kindOf P d) fs.toList 0 (P.cellsOf t)
    | _ => false

theorem mapM_some_all {α β : Type} {f : α → Option β} : ∀ {l : List α} {r : List β}, l.mapM f = some r → ∀ x ∈ l, ∃ y, f x = some y
  | [], _, _, x, hx => by cases hx
  | a :: l, r, h, x, hx => by
    simp only [List.mapM_cons, bind, Option.bind_eq_some_iff, pure] at h
    obtain ⟨y, h1, z, h2, _⟩ := h
    rcases List.mem_cons.1 hx with rfl | hx
    · exact ⟨y, h1⟩
    · exact mapM_some_all h2 x hx

section
variable {H : Type} {enc : TypeId × Value → H} {P : Program} {w : World} {base : Nat} {spare : Nat → Bool} {held : Bool}

/-- A row, element by element. -/
theorem row_rep {e : Nat} {k : Kind} {a : Addr} {len cap : Nat} (hl : len ≤ cap)
    (hel : ∀ i, i < len → ∃ cs, w.cells? base (a.add (i * k.sz)) k.sz = some cs ∧ ∃ x : k.den, rep w (fun _ => True) k x cs ∧ okK k x) (hm : len ≤ maxLen) :
    ∃ xs : List k.den, rep w (fun _ => True) (.sl e k) xs [.slice (some a) len cap] ∧ okK (.sl e k) xs := by
  have hx : ∀ i : Fin len, ∃ x : k.den, ∃ cs, w.cells? base (a.add (i.1 * k.sz)) k.sz = some cs ∧ rep w (fun _ => True) k x cs ∧ okK k x := fun i => by
    obtain ⟨cs, h1, x, h2, h3⟩ := hel i.1 i.2
    exact ⟨x, cs, h1, h2, h3⟩
  let f : Fin len → k.den := fun i => (hx i).choose
  have hf : ∀ i, ∃ cs, w.cells? base (a.add (i.1 * k.sz)) k.sz = some cs ∧ rep w (fun _ => True) k (f i) cs ∧ okK k (f i) := fun i => (hx i).choose_spec
  refine ⟨List.ofFn f, ⟨some a, cap, by simp, by simpa using hl, ?_⟩, by simpa using hm, fun i hi => ?_⟩
  · by_cases h0 : len = 0
    · left; subst h0; simp
    · right
      obtain ⟨cs0, h1, h2, _⟩ := hf ⟨0, by omega⟩
      have hs := sz_pos k
      obtain ⟨b1, b2, b3⟩ := World.cells?_some h1
      have hc0 := b3 0 hs
      have hlen0 : 0 < cs0.length := by omega
      rw [List.getElem?_eq_getElem hlen0] at hc0
      obtain ⟨g, o, sp⟩ := a
      have hz : (({ block := g, off := o, spot := sp } : Addr).add (0 * k.sz)).add 0 = { block := g, off := o, spot := sp } := by simp [Addr.add]
      have hc0 : w.cell? { block := g, off := o, spot := sp } = some cs0[0] := by rw [← hz]; exact hc0
      unfold World.cell? at hc0
      simp only at hc0
      split at hc0
      case h_2 => cases hc0
      rename_i cs e2 fz hw
      split at hc0
      · cases hc0
      rename_i hsp
      have hsp : sp = none := by cases sp <;> simp_all
      subst hsp
      refine ⟨g, o, cs, e2, fz, rfl, trivial, hw, fun i hi => ?_⟩
      simp only [List.length_ofFn] at hi
      obtain ⟨csi, k1, k2, _⟩ := hf ⟨i, hi⟩
      obtain ⟨c1, c2, c3⟩ := World.cells?_some k1
      have e1 : (List.ofFn f)[i] = f ⟨i, hi⟩ := by simp
      rw [e1]
      have e2 : seg cs (o + i * k.sz) k.sz = csi := by
        apply List.ext_getElem?
        intro j
        by_cases hj : j < k.sz
        · rw [seg_get hj]
          have := c3 j hj
          rw [add_none, add_none] at this
          unfold World.cell? at this
          simp only [hw] at this
          rw [← this]; simp
        · rw [List.getElem?_eq_none (by simp [seg]; omega), List.getElem?_eq_none (by omega)]
      rw [e2]; exact k2
  · simp only [List.length_ofFn] at hi
    obtain ⟨_, _, _, h3⟩ := hf ⟨i, hi⟩
    have e1 : (List.ofFn f)[i]'(by simpa using hi) = f ⟨i, hi⟩ := by simp
    rw [e1]; exact h3

/-- Fields, one behind the other. -/
theorem fields_rep {f : Nat → Bool} {g : Nat → Option Kind} {cs : List Value} {n : Nat} (hcs : cs.length = n) (ih : ∀ (x : Field) (k : Kind), f x.type = true → g x.type = some k → P.cellsOf x.type = k.sz →
      (∃ fuel r, DataW.trod enc P w base spare held fuel x.type ((cs.drop x.offset).take (P.cellsOf x.type)) = some r) → ∃ y : k.den, rep w (fun _ => True) k y ((cs.drop x.offset).take (P.cellsOf x.type)) ∧ okK k y) :
    ∀ (l : List Field) (o : Nat) (k : Kind), kindFs g l = some k → fieldsOk P f g l o n = true → (∀ x ∈ l, ∃ fuel r, DataW.trod enc P w base spare held fuel x.type ((cs.drop x.offset).take (P.cellsOf x.type)) = some r) →
      ∃ y : k.den, rep w (fun _ => True) k y (cs.drop o) ∧ okK k y
  | [], o, k, h, _, _ => by cases h
  | [x], o, k, h, h2, h3 => by
    simp only [kindFs] at h
    simp only [fieldsOk, Bool.and_eq_true] at h2
    obtain ⟨a1, a2, a3, a4⟩ := h2
    rw [h] at a3
    simp only at a3
    have e1 := Nat.eq_of_beq_eq_true a1
    have e2 := Nat.eq_of_beq_eq_true a3
    have e3 := Nat.eq_of_beq_eq_true a4
    obtain ⟨y, hy, ho⟩ := ih x k a2 h e2 (h3 x (by simp))
    refine ⟨y, ?_, ho⟩
    rw [e1, List.take_of_length_le (by simp; omega)] at hy
    exact hy
  | x :: x2 :: l, o, k, h, h2, h3 => by
    simp only [kindFs] at h
    split at h
    case h_2 => cases h
    rename_i ka kb q1 q2
    cases h
    rw [fieldsOk] at h2
    simp only [Bool.and_eq_true] at h2
    obtain ⟨a1, a2, a3, a4⟩ := h2
    rw [q1] at a3
    simp only at a3
    have e1 := Nat.eq_of_beq_eq_true a1
    have e2 := Nat.eq_of_beq_eq_true a3
    obtain ⟨y, hy, ho⟩ := ih x ka a2 q1 e2 (h3 x (by simp))
    obtain ⟨z, hz, hoz⟩ := fields_rep hcs ih (x2 :: l) (o + P.cellsOf x.type) kb q2 a4 (fun u hu => h3 u (List.mem_cons_of_mem _ hu))
    refine ⟨(y, z), ⟨_, _, ?_, hy, hz⟩, ho, hoz⟩
    rw [e1, ← List.drop_drop]
    exact (List.take_append_drop _ _).symm

/-- **A datum that came in, as it is read**: it is one of the executor's. -/
theorem trod_rep : ∀ (d : Nat) {fuel : Nat} {t : Nat} {cs : List Value} {r : DataW H × List MemPlace} {k : Kind}, DataW.trod enc P w base spare held fuel t cs = some r → kindOf P d t = some k → kindOk P d t = true →
    ∃ x : k.den, rep w (fun _ => True) k x cs ∧ okK k x
  | 0, fuel, t, cs, r, k, h, hk, ho => by cases hk
  | d + 1, fuel, t, cs, r, k, h, hk, ho => by
    unfold kindOf at hk
    unfold kindOk at ho
    cases hu : P.underlying t with
    | none => rw [hu] at hk; cases hk
    | some D =>
      rw [hu] at hk ho
      cases D <;> simp only at hk ho <;> first | (cases hk; done) | skip
      case bool => cases hk; obtain ⟨b, rfl, _⟩ := DataW.trod_bool hu h; exact ⟨b, rfl, trivial⟩
      case int ik => cases hk; obtain ⟨n, rfl, _, hw⟩ := DataW.trod_int hu h; exact ⟨n, rfl, hw⟩
      case string => cases hk; obtain ⟨b, rfl, _, hs⟩ := DataW.trod_string hu h; exact ⟨b, rfl, hs⟩
      case slice e =>
        cases hke : kindOf P d e with
        | none => rw [hke] at hk; cases hk
        | some ke =>
          rw [hke] at hk ho
          cases hk
          simp only [Bool.and_eq_true] at ho
          have hsz := Nat.eq_of_beq_eq_true ho.1
          rcases DataW.trod_slice hu h with ⟨rfl, _⟩ | ⟨a, len, cap, elems, rest, n, _, rfl, _, hb, hl, hm, hlen, hel, _⟩
          · exact ⟨([] : List ke.den), ⟨none, 0, rfl, Nat.le_refl _, .inl rfl⟩, Nat.zero_le _, fun i hi => absurd hi (Nat.not_lt_zero _)⟩
          · refine row_rep (base := base) hl (fun i hi => ?_) (Nat.le_trans hl hm)
            have h1 := hel i hi
            rw [hsz, List.getElem?_eq_getElem (by omega)] at h1
            obtain ⟨ci, h2, h3⟩ := Option.bind_eq_some_iff.1 h1
            obtain ⟨x, h4, h5⟩ := trod_rep d h3 hke ho.2
            exact ⟨ci, h2, x, h4, h5⟩
      case struct fs =>
        obtain ⟨xs, n, _, _, hcl, hlx, hx⟩ := DataW.trod_struct hu h
        obtain ⟨y, hy, hok⟩ := fields_rep (enc := enc) (P := P) (w := w) (base := base) (spare := spare) (held := held) hcl (fun x k hf hg hsz hex => by
          obtain ⟨fuel', r', hr'⟩ := hex
          exact trod_rep d hr' hg hf) fs.toList 0 k hk ho (fun x hx' => by
            obtain ⟨i, hi⟩ := List.mem_iff_getElem?.1 hx'
            rw [Array.getElem?_toList] at hi
            have hlt := (Array.getElem?_eq_some_iff.1 hi).1
            exact ⟨n, xs[i]'(by omega), by rw [hx i x hi]; exact List.getElem?_eq_getElem _⟩)
        exact ⟨y, by simpa using hy, hok⟩

/-- The cells of a datum, as a call's argument. -/
theorem rep_cellsS {h : List Root} {β : Bs} {col : Col} (hz : ∀ g, zone col g) : ∀ {k : Kind} {x : k.den} {vs : List Value}, rep w (fun _ => True) k x vs → vrels h β col w (cellsS k x) vs
  | .int _, x, vs, hr => by obtain rfl : vs = _ := hr; exact ⟨rfl, trivial⟩
  | .bool, x, vs, hr => by obtain rfl : vs = _ := hr; exact ⟨rfl, trivial⟩
  | .str, x, vs, hr => by obtain rfl : vs = _ := hr; exact ⟨rfl, trivial⟩
  | .pair a b, x, vs, hr => by
    obtain ⟨p, q, rfl, h1, h2⟩ := hr
    exact vrels_append (rep_cellsS hz h1) (rep_cellsS hz h2)
  | .sl e k, x, vs, hr => by
    obtain ⟨A, c, rfl, hc, h⟩ := hr
    exact ⟨rep_mono (fun g o _ hw => ⟨hz g, hw⟩) (show rep w (fun _ => True) (.sl e k) x [.slice A (List.length x) c] from ⟨A, c, rfl, hc, h⟩), trivial⟩
end

/-- **FROM A CONTRACT TO A ROW**: a function of arguments that are only read, which tells a Bool. -/
theorem law_calls {P : Program} {f : Nat} {c : Ctr} (h : CtrOk P f c) (hg : c.grp = []) {ts : List AV} (hm : nfC c.modes ts = 1 ∧ heapC c.modes ts = [.dead]) {d : c.D} {b : Bool} (hn : c.nd = none) (hd : c.call ts = some d) (hr : c.ret d = [.bool b])
    {args : Array Value} {w : World} (he : enterV c.modes ts 1 1 = ts) (hv : vrels [.dead] (fun _ => none) (fun _ => none) w ts args.toList) : Calls P f args w fun e w' => e = .returned (.bool b) ∧ Below w.heap.size w w' := by
  obtain ⟨h1, h2⟩ := hm
  have hc := h.2 ts (fun d' => d' = d) args w (fun _ => none) (fun _ => none) (by unfold Ctr.can; rw [hn, hd]; rfl)
  rw [h1, h2, hg] at hc
  refine (hc (by show vrels _ _ _ _ (enterV c.modes ts 1 1) _; rw [he]; exact hv) (fun n r hr' => ?_) (fun g hgn => absurd rfl hgn)).mono fun e w' hx => ?_
  · cases n with
    | zero => cases hr'; trivial
    | succ n => cases n <;> cases hr'
  · obtain ⟨d', rfl, v, β', col', rfl, M, _, hres⟩ := hx
    rw [hr] at hres
    obtain rfl : v = .bool b := hres
    exact ⟨rfl, M.fr.os, M.fr.tape, M.fr.output, M.fr.size, fun k hk => M.fr.block k hk (by show ¬ ((0 : Nat) = 1); omega)⟩
end Go.Proofs.YtlkbmcmglkdciaaE
