/- What a call is told to keep and to give; its arguments. No condition. -/
import Derived.Test.YtlkbmcmglkdciaaE24
set_option linter.unusedVariables false
set_option linter.unusedSectionVars false
set_option linter.unusedSimpArgs false
namespace Go.Proofs.YtlkbmcmglkdciaaE
open Go Go.RowKit
open Classical

/-- A memory of the executor's beside a world: what Sat says of it, without the slots. -/
structure Mem (own0 : Own) (w0 : World) (h : List Root) (nf : Nat) (β : Bs) (cl : Col) (w : World) : Prop where
  heap : ∀ n r, getN h n = some r → rootRel h β cl w n r
  fr : Fr own0 w0 w
  col : ∀ b, cl b ≠ none → ((∃ x, cl b = some (0, x)) ∨ w0.heap.size ≤ b ∨ own0 b = 1) ∧ b < w.heap.size
  zero : getN h 0 = some .dead
  zon : ∀ g, g < w0.heap.size → cl g = none → own0 g = 0
  fix : ∀ n b r, own0.fx n = some (b, r) → n < nf ∧ β n = b ∧ ∃ r', getN h n = some r' ∧ Shape r r'

/-- What a call owns: what was handed over. The roots below nf stay where they are. -/
def ownOf (H : List Root) (nf : Nat) (β : Bs) (col : Col) : Own where
  o := fun g => match col g with | none => 0 | some (0, _) => 2 | some (_ + 1, _) => 1
  fx := fun n => if n < nf then (getN H n).map fun r => (β n, r) else none

/-- What a call may come to. -/
def Ctr.can (c : Ctr) (ts : List AV) : Option (c.D → Prop) :=
  match c.nd with
  | none => (c.call ts).map fun d d' => d' = d
  | some S => S ts
theorem nd_ok {D R : Type} {p : D → Prop} {κ : D → Option R} {r : R} (h : YtlkbmcmglkdciaaE.nd p κ = some r) : ∀ d, p d → κ d = some r := by
  unfold YtlkbmcmglkdciaaE.nd at h
  split at h
  · rename_i hx
    cases h
    exact hx.choose_spec
  · cases h
theorem nd_eq {D R : Type} {p : D → Prop} {κ : D → Option R} {r : R} (hp : ∃ d, p d) (h : ∀ d, p d → κ d = some r) : YtlkbmcmglkdciaaE.nd p κ = some r := by
  have hx : ∃ r, ∀ d, p d → κ d = some r := ⟨r, h⟩
  unfold YtlkbmcmglkdciaaE.nd
  rw [dif_pos hx]
  obtain ⟨d, hd⟩ := hp
  have := hx.choose_spec d hd
  rw [h d hd] at this
  exact this.symm
theorem bindC_ok {R : Type} {c : Ctr} {ts : List AV} {κ : c.D → Option R} {r : R} (h : bindC c ts κ = some r) : ∃ p, c.can ts = some p ∧ ∀ d, p d → κ d = some r := by
  unfold bindC at h
  unfold Ctr.can
  split at h
  · rename_i hn
    rw [hn]
    cases hd : c.call ts with
    | none => rw [hd] at h; cases h
    | some d =>
      rw [hd] at h
      exact ⟨_, rfl, fun d' hd' => by subst hd'; exact h⟩
  · rename_i S hn
    rw [hn]
    split at h
    · rename_i p hp
      exact ⟨p, hp, nd_ok h⟩
    · cases h
/-- What is shown of a function, once. -/
def CtrOk (P : Program) (f : Nat) (c : Ctr) : Prop :=
  (∃ fn, P.funcs[f]? = some fn ∧ fn.name ≠ "runtime.NumGoroutine" ∧ fn.body.isSome = true) ∧
  ∀ (ts : List AV) (p : c.D → Prop) (args : Array Value) (w : World) (β : Bs) (col : Col), c.can ts = some p →
    vrels (heapC c.modes ts) β col w (group c.grp (enterV c.modes ts 1 (nfC c.modes ts))) args.toList →
    (∀ n r, getN (heapC c.modes ts) n = some r → rootRel (heapC c.modes ts) β col w n r) →
    (∀ g, col g ≠ none → g < w.heap.size) →
    Calls P f args w fun e w' => ∃ d, p d ∧ ∃ v β' col', e = .returned v ∧
      Mem (ownOf (heapC c.modes ts) (nfC c.modes ts) β col) w (.dead :: (c.outs d ++ newL (c.ret d))) (nfC c.modes ts) β' col' w' ∧
      (c.outs d).length + 1 = nfC c.modes ts ∧
      vrel (.dead :: (c.outs d ++ newL (c.ret d))) β' col' w' (packR (seatL id (nfC c.modes ts) (c.ret d)).1) v
theorem CtrOk.of {P : Program} {f : Nat} {c : Ctr} (hn : c.nd = none) (h1 : ∃ fn, P.funcs[f]? = some fn ∧ fn.name ≠ "runtime.NumGoroutine" ∧ fn.body.isSome = true)
    (h2 : ∀ (ts : List AV) (d : c.D) (args : Array Value) (w : World) (β : Bs) (col : Col), c.call ts = some d →
      vrels (heapC c.modes ts) β col w (group c.grp (enterV c.modes ts 1 (nfC c.modes ts))) args.toList →
      (∀ n r, getN (heapC c.modes ts) n = some r → rootRel (heapC c.modes ts) β col w n r) →
      (∀ g, col g ≠ none → g < w.heap.size) →
      Calls P f args w fun e w' => ∃ v β' col', e = .returned v ∧
        Mem (ownOf (heapC c.modes ts) (nfC c.modes ts) β col) w (.dead :: (c.outs d ++ newL (c.ret d))) (nfC c.modes ts) β' col' w' ∧
        (c.outs d).length + 1 = nfC c.modes ts ∧
        vrel (.dead :: (c.outs d ++ newL (c.ret d))) β' col' w' (packR (seatL id (nfC c.modes ts) (c.ret d)).1) v) : CtrOk P f c := by
  refine ⟨h1, fun ts p args w β col hp k1 k2 k3 => ?_⟩
  unfold Ctr.can at hp
  rw [hn] at hp
  cases hd : c.call ts with
  | none => rw [hd] at hp; cases hp
  | some d =>
    rw [hd] at hp
    cases hp
    exact (h2 ts d args w β col hd k1 k2 k3).mono fun e w' h => ⟨d, rfl, h⟩

section
variable {own0 : Own} {w0 : World} {st : St} {a : Act} {w : World} {β : Bs} {col : Col}

/-- What a slice reads as, with the blocks that it lies in. -/
theorem readSl_row (S : Sat own0 w0 st a w β col) {x : AV} {s : Sl} {vx : Value} (hx : vrel st.heap β col w x vx) (h : readSl st.heap x = some s) {Z : Nat → Prop}
    (hz : ∀ g, col g = none → Z g) (hl : ∀ n ∈ looks x, ∀ g y, col g = some (n, y) → Z g) : rep w Z (.sl s.e s.k) s.xs [vx] := by
  cases x <;> simp only [readSl] at h <;> first | (cases h; done) | skip
  · cases h; obtain rfl : vx = _ := hx; exact ⟨none, 0, rfl, Nat.le_refl _, .inl rfl⟩
  · cases h
    exact rep_mono (fun g o hg hw => ⟨hz g hg, hw⟩) hx
  · rename_i n
    obtain ⟨s', hs'⟩ : ∃ s', rowsOf st.heap n = some s' := by
      split at h
      · rename_i hr; exact ⟨_, rowOf_of hr⟩
      · cases h
    obtain ⟨A, c, rfl, hc, hb⟩ := ref_row hx hs'
    have hR := rowRel S hs'
    rw [rowOf_get hs'] at h
    cases h
    refine ⟨A, c, rfl, hc, ?_⟩
    unfold rootRel at hR
    cases hβ : β n with
    | none => rw [hβ] at hR; exact .inl hR
    | some b =>
      rw [hβ] at hR hb
      obtain ⟨cs, fz, k1, k2, k3, k4, k5, k6, k7⟩ := hR
      by_cases he : s'.xs = []
      · exact .inl he
      · right
        have hlen : 0 < s'.xs.length := List.length_pos_iff.2 he
        have hA : A = some ⟨b.g, b.o + 0 * s'.k.sz, none⟩ := hb.1.resolve_left (by omega)
        exact ⟨b.g, _, cs, _, fz, hA, hl n (by simp [looks]) _ _ k1, k2, fun i hi => by
          have := rep_mono (fun g o hg hw => ⟨hl n (by simp [looks]) g _ hg, hw⟩) (k6 i hi)
          simpa using this⟩
  · rename_i n lo len
    obtain ⟨s', hs'⟩ : ∃ s', rowsOf st.heap n = some s' := by
      split at h
      · rename_i hr; exact ⟨_, rowOf_of hr⟩
      · cases h
    obtain ⟨hl0, A, c, rfl, hc, hb⟩ := win_row hx hs'
    have hR := rowRel S hs'
    rw [rowOf_get hs'] at h
    cases h
    have hlen : ((s'.xs.drop lo).take len).length = len := by simp; omega
    refine ⟨A, c, by rw [hlen], by rw [hlen]; exact hc, ?_⟩
    unfold rootRel at hR
    cases hβ : β n with
    | none => rw [hβ] at hR; left; simp only at hR; simp [hR]
    | some b =>
      rw [hβ] at hR hb
      obtain ⟨cs, fz, k1, k2, k3, k4, k5, k6, k7⟩ := hR
      by_cases he : len = 0
      · left; subst he; simp
      · right
        have hA : A = some ⟨b.g, b.o + lo * s'.k.sz, none⟩ := hb.1.resolve_left (by omega)
        refine ⟨b.g, _, cs, _, fz, hA, hl n (by simp [looks]) _ _ k1, k2, fun i hi => ?_⟩
        have hi' : lo + i < s'.xs.length := by simp only [hlen] at hi; omega
        have := rep_mono (fun g o hg hw => ⟨hl n (by simp [looks]) g _ hg, hw⟩) (k6 (lo + i) hi')
        have e1 : ((s'.xs.drop lo).take len)[i] = s'.xs[lo + i] := by simp
        simp only [e1]
        rw [show b.o + lo * s'.k.sz + i * s'.k.sz = b.o + (lo + i) * s'.k.sz by rw [Nat.add_mul]; omega]
        exact this
  · rename_i n i c
    obtain ⟨A, q, h1, h2, h3⟩ := sub_read S hx (by simp only [readSl]; exact h)
    refine ⟨A, q, by rw [h1], h2, ?_⟩
    rcases h3 with h3 | ⟨g, o, cs, e2, fz, rfl, hg, hw, hel⟩
    · exact .inl h3
    · exact .inr ⟨g, o, cs, e2, fz, rfl, hl n (by simp [looks]) _ _ hg, hw, fun i hi => rep_mono (fun g o hg hw => ⟨hl n (by simp [looks]) g _ hg, hw⟩) (hel i hi)⟩
  · rename_i n i c lo len
    obtain ⟨A, q, h1, h2, h3⟩ := swin_read S hx (by simp only [readSl]; exact h)
    refine ⟨A, q, by rw [h1], h2, ?_⟩
    rcases h3 with h3 | ⟨g, o, cs, e2, fz, rfl, hg, hw, hel⟩
    · exact .inl h3
    · exact .inr ⟨g, o, cs, e2, fz, rfl, hl n (by simp [looks]) _ _ hg, hw, fun i hi => rep_mono (fun g o hg hw => ⟨hl n (by simp [looks]) g _ hg, hw⟩) (hel i hi)⟩

/-- A value that only reads, as the callee sees it. -/
theorem toVal_ok (S : Sat own0 w0 st a w β col) {P : Program} {t : Nat} {x y : AV} {vx : Value} (hx : vrel st.heap β col w x vx) (h : toVal P st.heap t x = some y) {H : List Root} {β0 : Bs} {col0 : Col}
    (hz : ∀ g, col g = none → col0 g = none) (hl : ∀ n ∈ looks x, ∀ g y, col g = some (n, y) → col0 g = none) : vrel H β0 col0 w y vx ∧ cellOk y = true ∧ refless y = true := by
  have gen : (match readSl st.heap x with | some s => some (.row s.e s.k s.xs) | none => none) = some y → vrel H β0 col0 w y vx ∧ cellOk y = true ∧ refless y = true := by
    intro h
    split at h
    · rename_i s hs
      cases h
      exact ⟨readSl_row S hx hs hz hl, rfl, rfl⟩
    · cases h
  cases x <;> simp only [toVal] at h <;> first | exact gen h | skip
  · cases h; exact ⟨hx, rfl, rfl⟩
  · cases h; exact ⟨hx, rfl, rfl⟩
  · cases h; exact ⟨hx, rfl, rfl⟩
  · split at h
    · cases h
      obtain rfl : vx = _ := hx
      exact ⟨⟨none, 0, rfl, Nat.le_refl _, .inl rfl⟩, rfl, rfl⟩
    · cases h
  · cases h; exact ⟨hx, rfl, rfl⟩
theorem toVals_ok (S : Sat own0 w0 st a w β col) {P : Program} {H : List Root} {β0 : Bs} {col0 : Col} (hz : ∀ g, col g = none → col0 g = none) :
    ∀ {xs ys : List AV} {vs : List Value}, vrels st.heap β col w xs vs → toVals P st.heap xs = some ys → (∀ n ∈ looksL xs, ∀ g y, col g = some (n, y) → col0 g = none) →
      vrels H β0 col0 w ys vs ∧ ys.all cellOk = true ∧ ys.length = xs.length
  | [], ys, [], hv, h, hl => by cases h; exact ⟨trivial, rfl, rfl⟩
  | [], ys, _ :: _, hv, h, hl => hv.elim
  | _ :: _, ys, [], hv, h, hl => hv.elim
  | x :: xs, ys, v :: vs, hv, h, hl => by
    simp only [toVals] at h
    split at h
    · rename_i y ys' h1 h2
      cases h
      obtain ⟨a1, a2, _⟩ := toVal_ok S (H := H) (β0 := β0) hv.1 h1 hz (fun n hn => hl n (by simp [looksL, hn]))
      obtain ⟨b1, b2, b3⟩ := toVals_ok S hz hv.2 h2 (fun n hn => hl n (by simp [looksL, hn]))
      exact ⟨⟨a1, b1⟩, by simp [a2, b2], by simp [b3]⟩
    · cases h
end
end Go.Proofs.YtlkbmcmglkdciaaE
