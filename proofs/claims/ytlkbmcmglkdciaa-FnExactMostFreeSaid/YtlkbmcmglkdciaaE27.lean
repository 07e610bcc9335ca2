/- What a call gives back: the caller's numbers for it. No condition. -/
import Derived.Test.YtlkbmcmglkdciaaE26
set_option linter.unusedVariables false
set_option linter.unusedSectionVars false
set_option linter.unusedSimpArgs false
namespace Go.Proofs.YtlkbmcmglkdciaaE
open Go Go.RowKit
open Classical

section
variable {h1 h2 : List Root} {β1 β2 : Bs} {c1 c2 : Col} {w : World}

theorem boxV_ok {z : Bool} (hz : z = true → ∀ g, c1 g = none → c2 g = none) {v : AV} {x : Value} (hv : boxV z v = true) (h : vrel h1 β1 c1 w v x) : vrel h2 β2 c2 w v x := by
  cases v <;> simp only [boxV] at hv <;> first | exact h | (cases hv; done) | skip
  exact rep_mono (fun g o hg hw => ⟨hz hv g hg, hw⟩) h
theorem boxVs_ok {z : Bool} (hz : z = true → ∀ g, c1 g = none → c2 g = none) : ∀ {vs : List AV} {xs : List Value}, vs.all (boxV z) = true → vrels h1 β1 c1 w vs xs → vrels h2 β2 c2 w vs xs
  | [], [], _, _ => trivial
  | [], _ :: _, _, h => h
  | _ :: _, [], _, h => h
  | v :: vs, x :: xs, hv, h => by
    simp only [List.all_cons, Bool.and_eq_true] at hv
    exact ⟨boxV_ok hz hv.1 h.1, boxVs_ok hz hv.2 h.2⟩
theorem boxV_cell {z : Bool} {vs : List AV} (h : vs.all (boxV z) = true) : vs.all cellOk = true := by
  rw [List.all_eq_true] at h ⊢
  intro v hv
  have := h v hv
  cases v <;> simp_all [boxV, cellOk]

theorem seatC_ok {z : Bool} {m : Nat} {q1 q2 : Nat → Nat} (hz : z = true → ∀ g, c1 g = none → c2 g = none) (hq : ∀ n, 1 ≤ n → n ≤ m → ∀ x, vrel h1 β1 c1 w (.ref (q1 n)) x → vrel h2 β2 c2 w (.ref (q2 n)) x) : ∀ {l : List AV} {b1 b2 : Nat} {xs : List Value}, l.all (resV z m) = true →
    (∀ i, i < (newC l).length → ∀ x, vrel h1 β1 c1 w (.ref (b1 + i)) x → vrel h2 β2 c2 w (.ref (b2 + i)) x) →
    (seatC q1 b1 l).2 = b1 + (newC l).length ∧ (seatC q2 b2 l).2 = b2 + (newC l).length ∧ (vrels h1 β1 c1 w (seatC q1 b1 l).1 xs → vrels h2 β2 c2 w (seatC q2 b2 l).1 xs)
  | [], b1, b2, xs, _, _ => ⟨rfl, rfl, fun h => by cases xs <;> exact h⟩
  | v :: l, b1, b2, xs, hv, hr => by
    simp only [List.all_cons, Bool.and_eq_true] at hv
    have plain : (seatC q1 b1 (v :: l)) = (v :: (seatC q1 b1 l).1, (seatC q1 b1 l).2) → (seatC q2 b2 (v :: l)) = (v :: (seatC q2 b2 l).1, (seatC q2 b2 l).2) → newC (v :: l) = newC l →
        (∀ x, vrel h1 β1 c1 w v x → vrel h2 β2 c2 w v x) →
        (seatC q1 b1 (v :: l)).2 = b1 + (newC (v :: l)).length ∧ (seatC q2 b2 (v :: l)).2 = b2 + (newC (v :: l)).length ∧ (vrels h1 β1 c1 w (seatC q1 b1 (v :: l)).1 xs → vrels h2 β2 c2 w (seatC q2 b2 (v :: l)).1 xs) := by
      intro e1 e2 e3 hk
      rw [e1, e2, e3]
      rw [e3] at hr
      cases xs with
      | nil => obtain ⟨a, b, _⟩ := seatC_ok (q1 := q1) (q2 := q2) (m := m) (xs := []) hz hq hv.2 hr; exact ⟨a, b, fun h => h⟩
      | cons x xs =>
        obtain ⟨a, b, c⟩ := seatC_ok (q1 := q1) (q2 := q2) (m := m) (xs := xs) hz hq hv.2 hr
        exact ⟨a, b, fun h => ⟨hk x h.1, c h.2⟩⟩
    cases v with
    | own e k ys =>
      simp only [seatC, newC, List.length_cons] at hr ⊢
      have hr' : ∀ i, i < (newC l).length → ∀ x, vrel h1 β1 c1 w (.ref (b1 + 1 + i)) x → vrel h2 β2 c2 w (.ref (b2 + 1 + i)) x := fun i hi x hx => by
        have := hr (i + 1) (by omega) x (by rwa [show b1 + (i + 1) = b1 + 1 + i by omega])
        rwa [show b2 + (i + 1) = b2 + 1 + i by omega] at this
      cases xs with
      | nil => obtain ⟨a, b, _⟩ := seatC_ok (q1 := q1) (q2 := q2) (m := m) (xs := []) hz hq hv.2 hr'; exact ⟨by omega, by omega, fun h => h⟩
      | cons x xs =>
        obtain ⟨a, b, c⟩ := seatC_ok (q1 := q1) (q2 := q2) (m := m) (xs := xs) hz hq hv.2 hr'
        exact ⟨by omega, by omega, fun h => ⟨hr 0 (by omega) x h.1, c h.2⟩⟩
    | ref n =>
      have hv1 : 1 ≤ n ∧ n ≤ m := by
        have := hv.1
        simp only [resA, resV, Bool.and_eq_true] at this
        exact ⟨Nat.le_of_ble_eq_true this.1, Nat.le_of_ble_eq_true this.2⟩
      simp only [seatC, newC] at hr ⊢
      cases xs with
      | nil => obtain ⟨a, b, _⟩ := seatC_ok (q1 := q1) (q2 := q2) (m := m) (xs := []) hz hq hv.2 hr; exact ⟨a, b, fun h => h⟩
      | cons x xs =>
        obtain ⟨a, b, c⟩ := seatC_ok (q1 := q1) (q2 := q2) (m := m) (xs := xs) hz hq hv.2 hr
        exact ⟨a, b, fun h => ⟨hq n hv1.1 hv1.2 x h.1, c h.2⟩⟩
    | row e k ys => exact plain rfl rfl rfl fun x hx => rep_mono (fun g o hg hw => ⟨hz hv.1 g hg, hw⟩) hx
    | int k n => exact plain rfl rfl rfl fun x hx => hx
    | bool b => exact plain rfl rfl rfl fun x hx => hx
    | str s => exact plain rfl rfl rfl fun x hx => hx
    | nil e k => exact plain rfl rfl rfl fun x hx => hx
    | nilc => exact plain rfl rfl rfl fun x hx => hx
    | fn f => exact plain rfl rfl rfl fun x hx => hx
    | nilp => exact plain rfl rfl rfl fun x hx => hx
    | _ => exact absurd hv.1 (by simp [resV])
theorem newL_len {q : Nat → Nat} : ∀ {l : List AV} {b : Nat}, (seatL q b l).1.length = l.length
  | [], b => rfl
  | v :: l, b => by cases v <;> simp [seatL, newL_len (l := l)]
theorem seatL_ok {z : Bool} {m : Nat} {q1 q2 : Nat → Nat} (hz : z = true → ∀ g, c1 g = none → c2 g = none) (hq : ∀ n, 1 ≤ n → n ≤ m → ∀ x, vrel h1 β1 c1 w (.ref (q1 n)) x → vrel h2 β2 c2 w (.ref (q2 n)) x) : ∀ {l : List AV} {b1 b2 : Nat} {xs : List Value}, l.all (resA z m) = true →
    (∀ i, i < (newL l).length → ∀ x, vrel h1 β1 c1 w (.ref (b1 + i)) x → vrel h2 β2 c2 w (.ref (b2 + i)) x) →
    (vrels h1 β1 c1 w (seatL q1 b1 l).1 xs → vrels h2 β2 c2 w (seatL q2 b2 l).1 xs)
  | [], b1, b2, xs, _, _ => fun h => by cases xs <;> exact h
  | v :: l, b1, b2, xs, hv, hr => by
    simp only [List.all_cons, Bool.and_eq_true] at hv
    have plain : (seatL q1 b1 (v :: l)) = (v :: (seatL q1 b1 l).1, (seatL q1 b1 l).2) → (seatL q2 b2 (v :: l)) = (v :: (seatL q2 b2 l).1, (seatL q2 b2 l).2) → newL (v :: l) = newL l →
        (∀ x, vrel h1 β1 c1 w v x → vrel h2 β2 c2 w v x) →
        (vrels h1 β1 c1 w (seatL q1 b1 (v :: l)).1 xs → vrels h2 β2 c2 w (seatL q2 b2 (v :: l)).1 xs) := by
      intro e1 e2 e3 hk
      rw [e1, e2]
      rw [e3] at hr
      cases xs with
      | nil => exact fun h => h
      | cons x xs => exact fun h => ⟨hk x h.1, seatL_ok hz hq hv.2 hr h.2⟩
    cases v with
    | own e k ys =>
      simp only [seatL, newL, List.length_cons] at hr ⊢
      have hr' : ∀ i, i < (newL l).length → ∀ x, vrel h1 β1 c1 w (.ref (b1 + 1 + i)) x → vrel h2 β2 c2 w (.ref (b2 + 1 + i)) x := fun i hi x hx => by
        have := hr (i + 1) (by omega) x (by rwa [show b1 + (i + 1) = b1 + 1 + i by omega])
        rwa [show b2 + (i + 1) = b2 + 1 + i by omega] at this
      cases xs with
      | nil => exact fun h => h
      | cons x xs => exact fun h => ⟨hr 0 (by omega) x h.1, seatL_ok hz hq hv.2 hr' h.2⟩
    | agg vs =>
      simp only [seatL, newL, List.length_append] at hr ⊢
      have hv1 : vs.all (resV z m) = true := hv.1
      obtain ⟨e1, e2, _⟩ := seatC_ok (q1 := q1) (q2 := q2) (m := m) (l := vs) (b1 := b1) (b2 := b2) (xs := []) (h1 := h1) (h2 := h2) (β1 := β1) (β2 := β2) (c1 := c1) (c2 := c2) (w := w) hz hq hv1 (fun i hi => hr i (by omega))
      cases xs with
      | nil => exact fun h => h
      | cons x xs =>
        rintro ⟨⟨cs, rfl, ha⟩, hb⟩
        refine ⟨⟨cs, rfl, (seatC_ok hz hq hv1 (fun i hi => hr i (by omega))).2.2 ha⟩, ?_⟩
        rw [e2]
        rw [e1] at hb
        refine seatL_ok hz hq hv.2 (fun i hi x hx => ?_) hb
        have := hr ((newC vs).length + i) (by omega) x (by rwa [← Nat.add_assoc])
        rwa [← Nat.add_assoc] at this
    | ref n =>
      have hv1 : 1 ≤ n ∧ n ≤ m := by
        have := hv.1
        simp only [resA, resV, Bool.and_eq_true] at this
        exact ⟨Nat.le_of_ble_eq_true this.1, Nat.le_of_ble_eq_true this.2⟩
      simp only [seatL, newL] at hr ⊢
      cases xs with
      | nil => exact fun h => h
      | cons x xs => exact fun h => ⟨hq n hv1.1 hv1.2 x h.1, seatL_ok hz hq hv.2 hr h.2⟩
    | row e k ys => exact plain rfl rfl rfl fun x hx => rep_mono (fun g o hg hw => ⟨hz hv.1 g hg, hw⟩) hx
    | int k n => exact plain rfl rfl rfl fun x hx => hx
    | bool b => exact plain rfl rfl rfl fun x hx => hx
    | str s => exact plain rfl rfl rfl fun x hx => hx
    | nil e k => exact plain rfl rfl rfl fun x hx => hx
    | nilc => exact plain rfl rfl rfl fun x hx => hx
    | fn f => exact plain rfl rfl rfl fun x hx => hx
    | nilp => exact plain rfl rfl rfl fun x hx => hx
    | _ => exact absurd hv.1 (by simp [resA, resV])

/-- Results, packed. -/
theorem pack_ok {z : Bool} {m : Nat} {q1 q2 : Nat → Nat} (hz : z = true → ∀ g, c1 g = none → c2 g = none) (hq : ∀ n, 1 ≤ n → n ≤ m → ∀ x, vrel h1 β1 c1 w (.ref (q1 n)) x → vrel h2 β2 c2 w (.ref (q2 n)) x) {l : List AV} {b1 b2 : Nat} {x : Value} (hv : l.all (resA z m) = true)
    (hr : ∀ i, i < (newL l).length → ∀ x, vrel h1 β1 c1 w (.ref (b1 + i)) x → vrel h2 β2 c2 w (.ref (b2 + i)) x)
    (h : vrel h1 β1 c1 w (packR (seatL q1 b1 l).1) x) : vrel h2 β2 c2 w (packR (seatL q2 b2 l).1) x := by
  have e1 := newL_len (q := q1) (l := l) (b := b1)
  have e2 := newL_len (q := q2) (l := l) (b := b2)
  have one : ∀ xs, vrels h1 β1 c1 w (seatL q1 b1 l).1 xs → vrels h2 β2 c2 w (seatL q2 b2 l).1 xs := fun xs => seatL_ok hz hq hv hr
  generalize (seatL q1 b1 l).1 = p at *
  generalize (seatL q2 b2 l).1 = q at *
  match p, q, e1, e2 with
  | [], [], _, _ =>
    obtain ⟨cs, e, hh⟩ := h
    exact ⟨cs, e, one _ hh⟩
  | [u], [v], _, _ => exact (one [x] ⟨h, trivial⟩).1
  | u :: u' :: p, v :: v' :: q, _, _ =>
    obtain ⟨cs, e, hh⟩ := h
    exact ⟨cs, e, one _ hh⟩
  | [], _ :: _, e1, e2 => rw [← e1] at e2; cases e2
  | [_], [], e1, e2 => rw [← e1] at e2; cases e2
  | [_], _ :: _ :: _, e1, e2 => rw [← e1] at e2; simp at e2
  | _ :: _ :: _, [], e1, e2 => rw [← e1] at e2; cases e2
  | _ :: _ :: _, [_], e1, e2 => rw [← e1] at e2; simp at e2
end

/-! ### What stays is put back -/
theorem putOuts_ok : ∀ {ns : List Nat} {outs h h1 : List Root}, putOuts h ns outs = some h1 → ns.Nodup → (∀ n ∈ ns, n < h.length) →
    h1.length = h.length ∧ outs.length = ns.length ∧ (∀ i n : Nat, ns[i]? = some n → getN h1 n = outs[i]? ∧ outs[i]? ≠ some .dead ∧ ∀ e k xs j, outs[i]? ≠ some (.hol e k xs j)) ∧ ∀ n, n ∉ ns → getN h1 n = getN h n
  | [], [], h, h1, hh, _, _ => by cases hh; exact ⟨rfl, rfl, fun i n hi => by simp at hi, fun _ _ => rfl⟩
  | [], _ :: _, _, _, hh, _, _ => by cases hh
  | _ :: _, [], _, _, hh, _, _ => by cases hh
  | n :: ns, r :: outs, h, h1, hh, hn, hl => by
    have hd : (r ≠ .dead ∧ ∀ e k xs j, r ≠ .hol e k xs j) ∧ putOuts (setN h n r) ns outs = some h1 := by
      cases r with
      | dead => cases hh
      | hol _ _ _ _ => cases hh
      | rows e k xs => exact ⟨by simp, hh⟩
      | box t vs => exact ⟨by simp, hh⟩
    rw [List.nodup_cons] at hn
    obtain ⟨a, b, c, d⟩ := putOuts_ok hd.2 hn.2 (fun m hm => by rw [setN_len]; exact hl m (List.mem_cons_of_mem _ hm))
    rw [setN_len] at a
    refine ⟨a, by simp [b], fun i m hi => ?_, fun m hm => ?_⟩
    · cases i with
      | zero =>
        simp at hi; subst hi
        rw [d _ hn.1, getN_set, if_pos rfl, if_pos (hl _ List.mem_cons_self)]
        exact ⟨rfl, by simpa using hd.1.1, fun e k xs j h => hd.1.2 e k xs j (by simpa using h)⟩
      | succ i => simpa using c i m (by simpa using hi)
    · rw [List.mem_cons, not_or] at hm
      rw [d m hm.2, getN_set, if_neg hm.1]

section
variable {own0 : Own} {w0 : World} {st : St} {a : Act} {w : World} {β : Bs} {col : Col} {P : Program}
theorem kills_box' {n t : Nat} : ∀ {ms : List Nat} {st : St} {vs : List AV}, n ∉ ms → getN st.heap n = some (.box t vs) → ∃ vs', getN (kills ms st).heap n = some (.box t vs') ∧ vs'.length = vs.length
  | [], _, vs, _, hs => ⟨vs, hs, rfl⟩
  | m :: ms, st, vs, hn, hs => by
    have : getN (kill m st).heap n = some (.box t (forgetL m vs)) := by
      show getN (setN (forgetH m st.heap) m .dead) n = _
      rw [getN_set, if_neg (fun e => hn (by rw [e]; exact List.mem_cons_self)), getN_forget, hs]; rfl
    obtain ⟨vs', h1, h2⟩ := kills_box' (ms := ms) (st := kill m st) (fun h => hn (List.mem_cons_of_mem _ h)) this
    exact ⟨vs', h1, by rw [h2, forgetL_len]⟩
theorem somes_mem {n : Nat} : ∀ {l : List (Option Nat)}, n ∈ somes l ↔ ∃ i : Nat, l[i]? = some (some n)
  | [] => by simp [somes]
  | none :: l => by
    rw [somes, somes_mem (l := l)]
    constructor
    · rintro ⟨i, h⟩; exact ⟨i + 1, by simpa using h⟩
    · rintro ⟨i, h⟩
      cases i with
      | zero => simp at h
      | succ i => exact ⟨i, by simpa using h⟩
  | some m :: l => by
    rw [somes, List.mem_cons, somes_mem (l := l)]
    constructor
    · rintro (rfl | ⟨i, h⟩)
      · exact ⟨0, rfl⟩
      · exact ⟨i + 1, by simpa using h⟩
    · rintro ⟨i, h⟩
      cases i with
      | zero => simp at h; exact .inl h.symm
      | succ i => exact .inr ⟨i, by simpa using h⟩
theorem somes_inj : ∀ {l : List (Option Nat)} {n i j : Nat}, (somes l).Nodup → l[i]? = some (some n) → l[j]? = some (some n) → i = j
  | [], _, _, _, _, h, _ => by simp at h
  | none :: l, n, i, j, hn, h1, h2 => by
    cases i with
    | zero => simp at h1
    | succ i =>
      cases j with
      | zero => simp at h2
      | succ j => exact congrArg (· + 1) (somes_inj (l := l) (n := n) hn (by simpa using h1) (by simpa using h2))
  | some m :: l, n, i, j, hn, h1, h2 => by
    rw [somes, List.nodup_cons] at hn
    cases i with
    | zero =>
      simp at h1; subst h1
      cases j with
      | zero => rfl
      | succ j => exact absurd (somes_mem.2 ⟨j, by simpa using h2⟩) hn.1
    | succ i =>
      cases j with
      | zero => simp at h2; subst h2; exact absurd (somes_mem.2 ⟨i, by simpa using h1⟩) hn.1
      | succ j => exact congrArg (· + 1) (somes_inj (l := l) (n := n) hn.2 (by simpa using h1) (by simpa using h2))
theorem apartN_ok {hs : List Nat} : ∀ {l : List Nat}, apartN l hs = true → ∀ n ∈ l, n ∉ hs
  | [], _, n, hn => by cases hn
  | m :: l, h, n, hn => by
    obtain ⟨h1, h2⟩ | ⟨h1, h2⟩ := cn_or h
    · rcases List.mem_cons.1 hn with rfl | hn
      · exact notIn_ok h1
      · exact apartN_ok h2 n hn
    · cases h2
end
end Go.Proofs.YtlkbmcmglkdciaaE
