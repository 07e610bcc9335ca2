/- What elements are made of: data out of cells, roots moved in. No condition. -/
import Derived.Test.YtlkbmcmglkdciaaE10
set_option linter.unusedVariables false
set_option linter.unusedSectionVars false
set_option linter.unusedSimpArgs false
namespace Go.Proofs.YtlkbmcmglkdciaaE
open Go Go.RowKit

theorem rep_flat {w w' : World} {Z Z' : Nat → Prop} : ∀ {k : Kind} {x : k.den} {vs : List Value}, flat k = true → rep w Z k x vs → rep w' Z' k x vs
  | .int _, _, _, _, h => h
  | .bool, _, _, _, h => h
  | .str, _, _, _, h => h
  | .pair a b, _, _, hf, h => by
    simp only [flat, Bool.and_eq_true] at hf
    obtain ⟨p, q, rfl, h1, h2⟩ := h
    exact ⟨p, q, rfl, rep_flat hf.1 h1, rep_flat hf.2 h2⟩
  | .sl _ _, _, _, hf, _ => by simp [flat] at hf
theorem rep_flat_blk {w : World} {Z : Nat → Prop} : ∀ {k : Kind} {x : k.den} {vs : List Value}, flat k = true → rep w Z k x vs → vs.filterMap blk = []
  | .int _, _, _, _, h => by rw [show _ = _ from h]; rfl
  | .bool, _, _, _, h => by rw [show _ = _ from h]; rfl
  | .str, _, _, _, h => by rw [show _ = _ from h]; rfl
  | .pair a b, _, _, hf, h => by
    simp only [flat, Bool.and_eq_true] at hf
    obtain ⟨p, q, rfl, h1, h2⟩ := h
    rw [List.filterMap_append, rep_flat_blk hf.1 h1, rep_flat_blk hf.2 h2]; rfl
  | .sl _ _, _, _, hf, _ => by simp [flat] at hf
theorem rep_blk {w : World} {Z Y : Nat → Prop} : ∀ {k : Kind} {x : k.den} {vs : List Value}, rep w Y k x vs → inK w Z k vs → ∀ g ∈ vs.filterMap blk, Z g
  | .int _, _, _, h, _ => by rw [show _ = _ from h]; simp [blk]
  | .bool, _, _, h, _ => by rw [show _ = _ from h]; simp [blk]
  | .str, _, _, h, _ => by rw [show _ = _ from h]; simp [blk]
  | .pair a b, _, _, h, hi => by
    obtain ⟨p, q, rfl, h1, h2⟩ := h
    obtain ⟨i1, i2⟩ := hi
    have lp := rep_len h1
    rw [List.take_left' lp] at i1
    rw [List.drop_left' lp] at i2
    intro g hg
    rw [List.filterMap_append, List.mem_append] at hg
    exact hg.elim (rep_blk h1 i1 g) (rep_blk h2 i2 g)
  | .sl _ _, xs, _, h, hi => by
    obtain ⟨A, c, rfl, hc, h⟩ := h
    intro g hg
    rcases hi _ List.mem_cons_self with rfl | ⟨g', o, cs, fz, rfl, hg', _⟩
    · cases A <;> simp [blk] at hg
    · by_cases h0 : c = 0
      · simp [blk, h0] at hg
      · simp [blk, h0] at hg; subst hg; exact hg'
theorem inK_flat {w : World} {Z : Nat → Prop} : ∀ {k : Kind} {vs : List Value}, flat k = true → inK w Z k vs
  | .int _, _, _ => trivial
  | .bool, _, _ => trivial
  | .str, _, _ => trivial
  | .pair a b, _, hf => by simp only [flat, Bool.and_eq_true] at hf; exact ⟨inK_flat hf.1, inK_flat hf.2⟩
  | .sl _ _, _, hf => by simp [flat] at hf
theorem kindEq_ok {a b : Kind} {x : PLift (a = b)} (h : kindEq a b = some x) : a = b := x.down
theorem rowK_ok {k : Kind} {s : Sl} {ys : List k.den} (h : rowK k s = some ys) : ∃ e, s = ⟨e, k, ys⟩ := by
  unfold rowK at h
  split at h
  · rename_i e h1
    cases h
    cases s with
    | mk e' k' xs =>
      simp only at e h1
      subst e
      exact ⟨e', rfl⟩
  · cases h

def mbl (β : Bs) (ms : List Nat) : List Nat := ms.filterMap fun m => (β m).map (·.g)
theorem mbl_append (β : Bs) (a b : List Nat) : mbl β (a ++ b) = mbl β a ++ mbl β b := by simp [mbl]
/-- The blocks of the cells that are kept. -/
def kept : List AV → List Value → List Nat
  | v :: l, c :: cs => (match v with | .undef => (blk c).toList | _ => []) ++ kept l cs
  | _, _ => []
theorem kept_append : ∀ {l l' : List AV} {cs cs' : List Value}, l.length = cs.length → kept (l ++ l') (cs ++ cs') = kept l cs ++ kept l' cs'
  | [], _, [], _, _ => rfl
  | _ :: l, _, _ :: cs, _, h => by simp only [List.cons_append, kept, List.append_assoc]; rw [kept_append (by simpa using h)]
  | [], _, _ :: _, _, h => by simp at h
  | _ :: _, _, [], _, h => by simp at h

section
variable {own0 : Own} {w0 : World} {st : St} {a : Act} {w : World} {β : Bs} {col : Col} {P : Program} {o : Oper}

/-- A root that is handed over whole: its value reads as its row. -/
theorem ref_rep (S : Sat own0 w0 st a w β col) {m : Nat} {s : Sl} {c : Value} (hs : rowsOf st.heap m = some s) (hf : flat s.k = true) (hv : vrel st.heap β col w (.ref m) c) :
    (∀ Z : Nat → Prop, (∀ b, β m = some b → Z b.g) → rep w Z (.sl s.e s.k) s.xs [c] ∧ capP w Z s.e s.k.sz c) ∧ ((blk c).toList = [] ∨ (blk c).toList = mbl β [m]) := by
  obtain ⟨A, q, rfl, hq, hb⟩ := ref_row hv hs
  have hR := rowRel S hs
  unfold rootRel at hR
  cases hβ : β m with
  | none =>
    rw [hβ] at hR hb
    simp only at hR hb
    obtain ⟨rfl, _⟩ := hb
    refine ⟨fun Z hZ => ⟨⟨A, 0, rfl, by rw [hR]; exact Nat.le_refl _, .inl hR⟩, .inl rfl⟩, .inl (by cases A <;> simp [blk])⟩
  | some b =>
    rw [hβ] at hR hb
    simp only at hR hb
    obtain ⟨cs, fz, k1, k2, k3, k4, k5, k6, k7⟩ := hR
    obtain ⟨hb1, hb2⟩ := hb
    have hcap : ∀ Z : Nat → Prop, (∀ b, β m = some b → Z b.g) → capP w Z s.e s.k.sz (.slice A s.xs.length q) := fun Z hZ => by
      rcases hb1 with h | h
      · exact .inl h
      · exact .inr ⟨b.g, _, cs, fz, h, hZ b hβ, k2, k4, by omega⟩
    have hblk : (blk (.slice A s.xs.length q)).toList = [] ∨ (blk (.slice A s.xs.length q)).toList = mbl β [m] := by
      rcases hb1 with h | h
      · subst h; left; cases A <;> simp [blk]
      · subst h
        by_cases h0 : q = 0
        · left; simp [blk, h0]
        · right; simp [blk, h0, mbl, hβ]
    refine ⟨fun Z hZ => ⟨?_, hcap Z (fun b' hb' => hZ b' (by rw [← hβ]; exact hb'))⟩, hblk⟩
    by_cases h0 : s.xs = []
    · exact ⟨A, q, rfl, hq, .inl h0⟩
    · have hl : s.xs.length ≠ 0 := fun h => h0 (List.eq_nil_of_length_eq_zero h)
      have hA : A = some ⟨b.g, b.o + 0 * s.k.sz, none⟩ := hb1.resolve_left (by omega)
      subst hA
      refine ⟨_, q, rfl, hq, .inr ⟨b.g, _, cs, _, fz, rfl, hZ b rfl, k2, fun i hi => ?_⟩⟩
      have := k6 i hi
      rw [show b.o + 0 * s.k.sz + i * s.k.sz = b.o + i * s.k.sz by simp]
      exact rep_flat hf this

theorem denAt_ok (S : Sat own0 w0 st a w β col) {Z0 : Nat → Prop} : ∀ {k : Kind} {x : k.den} {vs : List AV} {cs : List Value} {y : k.den} {ms : List Nat},
    denAt st.heap k x vs = some (y, ms) → vs.length = cs.length →
    (∀ j v c, vs[j]? = some v → cs[j]? = some c → (v = .undef → ∀ e' k' xs, subAt k x j = some (.row e' k' xs) → rep w Z0 (.sl e' k') xs [c] ∧ capP w Z0 e' k'.sz c) ∧ (v ≠ .undef → vrel st.heap β col w v c)) →
    (rep w (fun g => Z0 g ∨ g ∈ mbl β ms) k y cs ∧ inK w (fun g => Z0 g ∨ g ∈ mbl β ms) k cs) ∧ ∃ l, l.Sublist (mbl β ms) ∧ (cs.filterMap blk).Perm (kept vs cs ++ l) := by
  intro k
  induction k with
  | int ik =>
    intro x vs cs y ms h hl hv
    cases vs with
    | nil => simp [denAt] at h
    | cons v l => cases l with
      | cons v2 l => cases v <;> simp [denAt] at h
      | nil =>
        cases cs with
        | nil => simp at hl
        | cons c cs => cases cs with
          | cons _ _ => simp at hl
          | nil =>
            cases v <;> simp only [denAt] at h <;> first | (cases h; done) | skip
            obtain ⟨h1, h2⟩ := cn_some h
            cases h2
            have := of_decide_eq_true h1
            subst this
            obtain rfl : c = _ := (hv 0 _ c rfl rfl).2 (by simp)
            exact ⟨⟨rfl, trivial⟩, [], List.nil_sublist _, by simp [kept, blk]⟩
  | bool =>
    intro x vs cs y ms h hl hv
    cases vs with
    | nil => simp [denAt] at h
    | cons v l => cases l with
      | cons v2 l => cases v <;> simp [denAt] at h
      | nil =>
        cases cs with
        | nil => simp at hl
        | cons c cs => cases cs with
          | cons _ _ => simp at hl
          | nil =>
            cases v <;> simp only [denAt] at h <;> first | (cases h; done) | skip
            cases h
            obtain rfl : c = _ := (hv 0 _ c rfl rfl).2 (by simp)
            exact ⟨⟨rfl, trivial⟩, [], List.nil_sublist _, by simp [kept, blk]⟩
  | str =>
    intro x vs cs y ms h hl hv
    cases vs with
    | nil => simp [denAt] at h
    | cons v l => cases l with
      | cons v2 l => cases v <;> simp [denAt] at h
      | nil =>
        cases cs with
        | nil => simp at hl
        | cons c cs => cases cs with
          | cons _ _ => simp at hl
          | nil =>
            cases v <;> simp only [denAt] at h <;> first | (cases h; done) | skip
            cases h
            obtain rfl : c = _ := (hv 0 _ c rfl rfl).2 (by simp)
            exact ⟨⟨rfl, trivial⟩, [], List.nil_sublist _, by simp [kept, blk]⟩
  | pair p q ihp ihq =>
    intro x vs cs y ms h hl hv
    simp only [denAt] at h
    split at h
    · rename_i y1 l1 h1
      split at h
      · rename_i z l2 h2
        cases h
        rw [takeN_eq] at h1
        rw [dropN_eq] at h2
        have b1 := ihp h1 (cs := cs.take p.sz) (by simp [hl]) (fun j v c hv1 hc1 => by
          have hj : j < p.sz := by
            have := (List.getElem?_eq_some_iff.1 hv1).1
            simp at this; omega
          rw [List.getElem?_take, if_pos hj] at hv1 hc1
          have := hv j v c hv1 hc1
          refine ⟨fun hu e' k' xs hs => this.1 hu e' k' xs ?_, this.2⟩
          simp only [subAt, cn, blt_true hj]
          exact hs)
        have b2 := ihq h2 (cs := cs.drop p.sz) (by simp [hl]) (fun j v c hv1 hc1 => by
          rw [List.getElem?_drop] at hv1 hc1
          have := hv (p.sz + j) v c hv1 hc1
          refine ⟨fun hu e' k' xs hs => this.1 hu e' k' xs ?_, this.2⟩
          simp only [subAt, cn, blt_false (show p.sz ≤ p.sz + j by omega)]
          rw [show p.sz + j - p.sz = j by omega]; exact hs)
        obtain ⟨⟨r1, v1⟩, s1, t1, u1⟩ := b1
        obtain ⟨⟨r2, v2⟩, s2, t2, u2⟩ := b2
        refine ⟨⟨⟨cs.take p.sz, cs.drop p.sz, by simp, rep_mono (fun g o hg ho => ⟨?_, ho⟩) r1, rep_mono (fun g o hg ho => ⟨?_, ho⟩) r2⟩, inK_mono (fun g o hg ho => ⟨?_, ho⟩) v1, inK_mono (fun g o hg ho => ⟨?_, ho⟩) v2⟩, s1 ++ s2, ?_, ?_⟩
        · rw [mbl_append]; exact hg.imp id (fun h => List.mem_append.2 (.inl h))
        · rw [mbl_append]; exact hg.imp id (fun h => List.mem_append.2 (.inr h))
        · rw [mbl_append]; exact hg.imp id (fun h => List.mem_append.2 (.inl h))
        · rw [mbl_append]; exact hg.imp id (fun h => List.mem_append.2 (.inr h))
        · rw [mbl_append]; exact t1.append t2
        · have e1 : cs.filterMap blk = (cs.take p.sz).filterMap blk ++ (cs.drop p.sz).filterMap blk := by rw [← List.filterMap_append, List.take_append_drop]
          have e2 : kept vs cs = kept (vs.take p.sz) (cs.take p.sz) ++ kept (vs.drop p.sz) (cs.drop p.sz) := by
            rw [← kept_append (by simp [hl]), List.take_append_drop, List.take_append_drop]
          rw [e1, e2]
          refine (u1.append u2).trans ?_
          simp only [List.append_assoc]
          refine List.Perm.append_left _ ?_
          rw [← List.append_assoc, ← List.append_assoc]
          exact List.Perm.append_right _ List.perm_append_comm
      · cases h
    · cases h
  | sl e k ih =>
    intro x vs cs y ms h hl hv
    cases vs with
    | nil => simp [denAt] at h
    | cons v l => cases l with
      | cons v2 l => cases v <;> simp [denAt] at h
      | nil =>
        cases cs with
        | nil => simp at hl
        | cons c cs => cases cs with
          | cons _ _ => simp at hl
          | nil =>
            cases v <;> simp only [denAt] at h <;> first | (cases h; done) | skip
            · cases h
              have := (hv 0 _ c rfl rfl).1 rfl e k x rfl
              refine ⟨⟨rep_mono (fun g o hg ho => ⟨.inl hg, ho⟩) this.1, fun v hv => by rw [List.mem_singleton] at hv; subst hv; exact capP_mono (fun g o hg ho => ⟨.inl hg, ho⟩) this.2⟩, [], List.nil_sublist _, ?_⟩
              cases hb : blk c <;> simp [kept, hb]
            · obtain ⟨h1, h2⟩ := cn_some h
              cases h2
              obtain rfl : c = _ := (hv 0 _ c rfl rfl).2 (by simp)
              exact ⟨⟨⟨none, 0, rfl, Nat.le_refl _, .inl rfl⟩, fun v hv => by rw [List.mem_singleton] at hv; subst hv; exact .inl rfl⟩, [], List.nil_sublist _, by simp [kept, blk]⟩
            · split at h
              · rename_i s hs
                obtain ⟨h1, h2⟩ := cn_some h
                simp only [Bool.and_eq_true] at h1
                split at h2
                · rename_i ys hy
                  cases h2
                  obtain ⟨e4, rfl⟩ := rowK_ok hy
                  have := Nat.eq_of_beq_eq_true h1.1
                  simp only at this
                  subst this
                  have hr := ref_rep S hs h1.2 ((hv 0 _ c rfl rfl).2 (by simp))
                  refine ⟨⟨(hr.1 _ (fun b hb => .inr (by simp [mbl, hb]))).1, fun v hv => by rw [List.mem_singleton] at hv; subst hv; exact (hr.1 _ (fun b hb => .inr (by simp [mbl, hb]))).2⟩, (blk c).toList, ?_, ?_⟩
                  · rcases hr.2 with h | h
                    · rw [h]; exact List.nil_sublist _
                    · rw [h]; exact List.Sublist.refl _
                  · cases hb : blk c <;> simp [kept, hb]
                · cases h2
              · cases h
end
end Go.Proofs.YtlkbmcmglkdciaaE
