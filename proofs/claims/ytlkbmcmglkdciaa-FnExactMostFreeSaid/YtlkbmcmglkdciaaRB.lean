/- One row handed to a function whose contract is told in cells. No condition. -/
import Derived.Test.YtlkbmcmglkdciaaE36
import Derived.Sort.Row
set_option linter.unusedVariables false
set_option linter.unusedSimpArgs false
namespace Go.Proofs.YtlkbmcmglkdciaaE
open Go Go.RowKit

/-- The cells of an element that holds no slice. -/
def encK : (k : Kind) → k.den → List Value
  | .int k, x => [.int k x] | .bool, x => [.bool x] | .str, x => [.string x]
  | .pair a b, x => encK a x.1 ++ encK b x.2
  | .sl _ _, _ => []
theorem rep_enc {w : World} {Z : Nat → Prop} : ∀ {k : Kind} {x : k.den} {vs : List Value}, flat k = true → rep w Z k x vs → vs = encK k x
  | .int _, _, _, _, h => h
  | .bool, _, _, _, h => h
  | .str, _, _, _, h => h
  | .pair a b, x, _, hf, h => by
    simp only [flat, Bool.and_eq_true] at hf
    obtain ⟨p, q, rfl, h1, h2⟩ := h
    rw [rep_enc hf.1 h1, rep_enc hf.2 h2]; rfl
  | .sl _ _, _, _, hf, _ => by cases hf
theorem enc_rep {w : World} {Z : Nat → Prop} : ∀ {k : Kind} (x : k.den), flat k = true → rep w Z k x (encK k x)
  | .int _, _, _ => rfl
  | .bool, _, _ => rfl
  | .str, _, _ => rfl
  | .pair a b, x, hf => by
    simp only [flat, Bool.and_eq_true] at hf
    exact ⟨_, _, rfl, enc_rep x.1 hf.1, enc_rep x.2 hf.2⟩
  | .sl _ _, _, hf => by cases hf
theorem enc_len : ∀ {k : Kind} (x : k.den), flat k = true → (encK k x).length = k.sz
  | .int _, _, _ => rfl
  | .bool, _, _ => rfl
  | .str, _, _ => rfl
  | .pair a b, x, hf => by
    simp only [flat, Bool.and_eq_true] at hf
    simp [encK, Kind.sz, enc_len x.1 hf.1, enc_len x.2 hf.2]
  | .sl _ _, _, hf => by cases hf
theorem enc_one : ∀ {k : Kind} (x : k.den), flat k = true → ∀ v ∈ encK k x, oneC v = true
  | .int _, _, _, v, hv => by simp [encK] at hv; subst hv; rfl
  | .bool, _, _, v, hv => by simp [encK] at hv; subst hv; rfl
  | .str, _, _, v, hv => by simp [encK] at hv; subst hv; rfl
  | .pair a b, x, hf, v, hv => by
    simp only [flat, Bool.and_eq_true] at hf
    rcases List.mem_append.1 (show v ∈ encK a x.1 ++ encK b x.2 from hv) with h | h
    · exact enc_one x.1 hf.1 v h
    · exact enc_one x.2 hf.2 v h
  | .sl _ _, _, hf, _, _ => by cases hf

theorem good_ex {s : Sig} {P : Program} (hg : s.good P = true) : ∃ fn, P.funcs[s.f]? = some fn ∧ fn.name ≠ "runtime.NumGoroutine" ∧ fn.body.isSome = true := by
  unfold Sig.good at hg
  split at hg
  case h_2 => cases hg
  rename_i fn hf
  simp only [Bool.and_eq_true, Bool.not_eq_true', decide_eq_false_iff_not] at hg
  exact ⟨fn, hf, hg.2, hg.1⟩
/-- A row that came in. -/
structure RowIn (H : List Root) (β : Bs) (col : Col) (w : World) (e : Nat) (k : Kind) (xs : List k.den) (b : Base) (cs : Array Value) (fz : Nat × Nat) : Prop where
  base : β 1 = some b
  col : col b.g = some (1, true)
  here : w.heap[b.g]? = some (.cells cs e fz)
  size : cs.size = b.S
  unf : unfrozen cs.size fz
  fits : b.o + xs.length * k.sz ≤ cs.size
  els : ∀ i, ∀ h : i < xs.length, seg cs (b.o + i * k.sz) k.sz = encK k xs[i]
theorem row_in {H : List Root} {β : Bs} {col : Col} {w : World} {e : Nat} {k : Kind} {xs : List k.den} {v : Value} (hf : flat k = true) (hR : rootRel H β col w 1 (.rows e k xs)) (hH : getN H 1 = some (.rows e k xs)) (hv : vrel H β col w (.ref 1) v) :
    ∃ A c, v = .slice A xs.length c ∧ xs.length ≤ c ∧ ((β 1 = none ∧ xs = [] ∧ c = 0) ∨ ∃ b cs fz, RowIn H β col w e k xs b cs fz ∧ (c = 0 ∨ A = some ⟨b.g, b.o, none⟩) ∧ b.o + c * k.sz ≤ cs.size) := by
  obtain ⟨A, c, rfl, hc, hb⟩ := ref_row hv (rowOf_of hH)
  simp only at hc hb
  refine ⟨A, c, rfl, hc, ?_⟩
  unfold rootRel at hR
  cases hβ : β 1 with
  | none =>
    rw [hβ] at hR hb
    exact .inl ⟨rfl, hR, hb.1⟩
  | some b =>
    rw [hβ] at hR hb
    obtain ⟨cs, fz, k1, k2, k3, k4, k5, k6, k7⟩ := hR
    obtain ⟨hb1, hb2⟩ := hb
    refine .inr ⟨b, cs, fz, ⟨hβ, k1, k2, k3, k4, k5, fun i hi => rep_enc hf (k6 i hi)⟩, by simpa using hb1, by rw [k3]; simpa using hb2⟩

section
variable {β : Bs} {col : Col} {w w' : World} {e : Nat} {k : Kind} {xs ys : List k.den} {b : Base} {cs cs' : Array Value} {fz : Nat × Nat} {nf : Nat}
theorem own_col {H : List Root} {n : Nat} : ∀ g, (ownOf H n β col).o g = 1 ↔ ∃ m x, col g = some (m + 1, x) := fun g => by
  show (match col g with | none => 0 | some (0, _) => 2 | some (_ + 1, _) => 1) = 1 ↔ _
  cases hc : col g with
  | none => simp
  | some p => obtain ⟨m, x⟩ := p; cases m <;> simp
/-- The row was written in its place. -/
theorem mem_row (hf : flat k = true) (R : RowIn [.dead, .rows e k xs] β col w e k xs b cs fz) (hcol : ∀ g, col g ≠ none → g < w.heap.size)
    (hos : w'.os = w.os) (htape : w'.tape = w.tape) (hout : w'.output = w.output) (hsize : w.heap.size ≤ w'.heap.size) (hfar : ∀ g, g < w.heap.size → g ≠ b.g → w'.heap[g]? = w.heap[g]?)
    (hhere : w'.heap[b.g]? = some (.cells cs' e fz)) (hcs : cs'.size = cs.size) (hels : ∀ i, ∀ h : i < ys.length, seg cs' (b.o + i * k.sz) k.sz = encK k ys[i]) (hfit : b.o + ys.length * k.sz ≤ cs.size)
    (hnf : nf = 1 ∨ (nf = 2 ∧ ys.length = xs.length)) :
    Mem (ownOf [.dead, .rows e k xs] nf β col) w [.dead, .rows e k ys] nf β col w' := by
  refine ⟨fun n r hn => ?_, ⟨hos, htape, hout, hsize, fun g hg ho => ?_⟩, fun g hg => ⟨?_, Nat.lt_of_lt_of_le (hcol g hg) hsize⟩, rfl, fun g hg hc => ?_, fun n bb r h => ?_⟩
  · match n, hn with
    | 0, hn => cases hn; trivial
    | 1, hn =>
      cases hn
      unfold rootRel
      rw [R.base]
      refine ⟨cs', fz, R.col, hhere, by rw [hcs]; exact R.size, by rw [hcs]; exact R.unf, by rw [hcs]; exact hfit, fun i hi => by rw [hels i hi]; exact enc_rep _ hf, .inl hf⟩
    | n + 2, hn => cases n <;> cases hn
  · refine hfar g hg ?_
    rintro rfl
    exact ho ((own_col b.g).2 ⟨0, true, R.col⟩)
  · cases hc : col g with
    | none => exact absurd hc hg
    | some p =>
      obtain ⟨m, y⟩ := p
      cases m with
      | zero => exact .inl ⟨y, rfl⟩
      | succ m => exact .inr (.inr ((own_col g).2 ⟨m, y, hc⟩))
  · show (match col g with | none => 0 | some (0, _) => 2 | some (_ + 1, _) => 1) = 0
    rw [hc]
  · have h : (if n < nf then (getN [Root.dead, .rows e k xs] n).map fun r => (β n, r) else none) = some (bb, r) := h
    split at h
    · rename_i hn
      match n, hn, h with
      | 0, hn, h => cases h; exact ⟨hn, rfl, .dead, rfl, trivial⟩
      | 1, hn, h =>
        cases h
        exact ⟨hn, rfl, _, rfl, rfl, rfl, by rcases hnf with h | h; · omega
                                             · exact h.2.symm⟩
      | n + 2, hn, h => cases n <;> cases h
    · cases h
/-- Nothing was written. -/
theorem mem_below {H : List Root} (hH : ∀ n r, getN H n = some r → rootRel H β col w n r) (h0 : getN H 0 = some .dead) (hcol : ∀ g, col g ≠ none → g < w.heap.size)
    (hos : w'.os = w.os) (htape : w'.tape = w.tape) (hout : w'.output = w.output) (hsize : w.heap.size ≤ w'.heap.size) (hfar : ∀ g, g < w.heap.size → w'.heap[g]? = w.heap[g]?) :
    Mem (ownOf H nf β col) w H nf β col w' := by
  have zk : Zk col col w w' := ⟨fun g o hg hw => ⟨hg, by rw [hfar g (Array.getElem?_eq_some_iff.1 hw).1]; exact hw⟩⟩
  have same : ∀ n, Same H H β β col col w w' n := fun n => ⟨rfl, rfl, fun g o _ hw => ⟨rfl, by rw [hfar g (Array.getElem?_eq_some_iff.1 hw).1]; exact hw⟩⟩
  refine ⟨fun n r hn => ?_, ⟨hos, htape, hout, hsize, fun g hg ho => hfar g hg⟩, fun g hg => ⟨?_, Nat.lt_of_lt_of_le (hcol g hg) hsize⟩, h0, fun g hg hc => ?_, fun n bb r h => ?_⟩
  · refine rootRel_keep zk (p := fun _ => True) (q := fun _ => True) (fun n _ => (same n).weak) (fun n _ => same n) hH (same n) r (fun t vs e => ?_) (hH n r hn)
    subst e
    obtain ⟨_, cs, _, _, _, _, h5, _⟩ := hH n _ hn
    exact seesL_imp (fun _ _ => trivial) (fun _ _ => trivial) vs (vrels_sees vs _ h5)
  · cases hc : col g with
    | none => exact absurd hc hg
    | some p =>
      obtain ⟨m, y⟩ := p
      cases m with
      | zero => exact .inl ⟨y, rfl⟩
      | succ m => exact .inr (.inr ((own_col g).2 ⟨m, y, hc⟩))
  · show (match col g with | none => 0 | some (0, _) => 2 | some (_ + 1, _) => 1) = 0
    rw [hc]
  · have h : (if n < nf then (getN H n).map fun r => (β n, r) else none) = some (bb, r) := h
    split at h
    · rename_i hn
      obtain ⟨r', h1, h2⟩ := Option.map_eq_some_iff.1 h
      cases h2
      exact ⟨hn, rfl, _, h1, Shape.refl _⟩
    · cases h
/-- The row lies in a block of its own, made by the call. -/
theorem mem_new (hf : flat k = true) {g' o' : Nat} {fz' : Nat × Nat} (hcol : ∀ g, col g ≠ none → g < w.heap.size)
    (hos : w'.os = w.os) (htape : w'.tape = w.tape) (hout : w'.output = w.output) (hsize : g' < w'.heap.size) (hg' : w.heap.size ≤ g') (hfar : ∀ g, g < w.heap.size → w'.heap[g]? = w.heap[g]?)
    (hhere : w'.heap[g']? = some (.cells cs' e fz')) (hunf : unfrozen cs'.size fz') (hels : ∀ i, ∀ h : i < ys.length, seg cs' (o' + i * k.sz) k.sz = encK k ys[i]) (hfit : o' + ys.length * k.sz ≤ cs'.size) :
    Mem (ownOf [.dead, .rows e k xs] 1 β col) w [.dead, .rows e k ys] 1 (upd β 1 (some ⟨g', o', cs'.size⟩)) (fun g => if g = g' then some (1, true) else col g) w' := by
  have hne : ∀ g, col g ≠ none → g ≠ g' := fun g hg h => by subst h; have := hcol g hg; omega
  refine ⟨fun n r hn => ?_, ⟨hos, htape, hout, by omega, fun g hg ho => hfar g hg⟩, fun g hg => ?_, rfl, fun g hg hc => ?_, fun n bb r h => ?_⟩
  · match n, hn with
    | 0, hn => cases hn; trivial
    | 1, hn =>
      cases hn
      unfold rootRel
      rw [upd_self]
      exact ⟨cs', fz', if_pos rfl, hhere, rfl, hunf, hfit, fun i hi => by rw [hels i hi]; exact enc_rep _ hf, .inl hf⟩
    | n + 2, hn => cases n <;> cases hn
  · by_cases h : g = g'
    · subst h; exact ⟨.inr (.inl hg'), hsize⟩
    · rw [if_neg h] at hg ⊢
      refine ⟨?_, by have := hcol g hg; omega⟩
      cases hc : col g with
      | none => exact absurd hc hg
      | some p =>
        obtain ⟨m, y⟩ := p
        cases m with
        | zero => exact .inl ⟨y, rfl⟩
        | succ m => exact .inr (.inr ((own_col g).2 ⟨m, y, hc⟩))
  · by_cases h : g = g'
    · subst h; omega
    · rw [if_neg h] at hc
      show (match col g with | none => 0 | some (0, _) => 2 | some (_ + 1, _) => 1) = 0
      rw [hc]
  · have h : (if n < 1 then (getN [Root.dead, .rows e k xs] n).map fun r => (β n, r) else none) = some (bb, r) := h
    split at h
    · rename_i hn
      obtain rfl : n = 0 := by omega
      cases h
      exact ⟨hn, upd_ne _ _ (by omega), .dead, rfl, trivial⟩
    · cases h
end
end Go.Proofs.YtlkbmcmglkdciaaE
