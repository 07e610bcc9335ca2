/- Calls hold. No condition. -/
import Derived.Test.YtlkbmcmglkdciaaE27
set_option linter.unusedVariables false
set_option linter.unusedSectionVars false
set_option linter.unusedSimpArgs false
namespace Go.Proofs.YtlkbmcmglkdciaaE
open Go Go.RowKit
open Classical

theorem somes_app : ∀ (l l' : List (Option Nat)), somes (l ++ l') = somes l ++ somes l'
  | [], _ => rfl
  | none :: l, l' => by simp [somes, somes_app l l']
  | some n :: l, l' => by simp [somes, somes_app l l']
theorem somes_map : ∀ (l : List Nat), somes (l.map some) = l
  | [] => rfl
  | n :: l => by simp [somes, somes_map l]

/-- The caller's roots in the callee's numbers. -/
noncomputable def posL (L : List (Option Nat)) (n : Nat) : Option Nat := if h : ∃ i : Nat, L[i]? = some (some n) then some h.choose else none
theorem posL_of {L : List (Option Nat)} (hn : (somes L).Nodup) {n i : Nat} (h : L[i]? = some (some n)) : posL L n = some i := by
  have hx : ∃ i : Nat, L[i]? = some (some n) := ⟨i, h⟩
  unfold posL
  rw [dif_pos hx]
  exact congrArg some (somes_inj hn hx.choose_spec h)
theorem posL_some {L : List (Option Nat)} {n i : Nat} (h : posL L n = some i) : L[i]? = some (some n) := by
  unfold posL at h
  split at h
  · rename_i hx; cases h; exact hx.choose_spec
  · cases h
def hereB (L : List (Option Nat)) (β : Bs) : Bs := fun j => match j with | 0 => none | i + 1 => (L[i]?).bind fun o => o.bind β
noncomputable def hereC (L : List (Option Nat)) (z : Bool) (col : Col) : Col := fun g => match col g with
  | none => none
  | some (0, x) => some (0, x)
  | some (n + 1, x) => match posL L (n + 1) with
    | some i => some (i + 1, x)
    | none => if z = true then some (0, x) else none

section
variable {L : List (Option Nat)} {z : Bool} {col : Col} {g : Nat}
theorem hereC_none (h : col g = none) : hereC L z col g = none := by unfold hereC; rw [h]
theorem hereC_of (hn : (somes L).Nodup) {n i : Nat} {x : Bool} (hL : L[i]? = some (some n)) (h0 : n ≠ 0) (h : col g = some (n, x)) : hereC L z col g = some (i + 1, x) := by
  unfold hereC
  rw [h]
  cases n with
  | zero => exact absurd rfl h0
  | succ n => simp only [posL_of hn hL]
theorem hereC_at {i : Nat} {x : Bool} (h : hereC L z col g = some (i + 1, x)) : ∃ n, n ≠ 0 ∧ L[i]? = some (some n) ∧ col g = some (n, x) := by
  unfold hereC at h
  split at h
  · cases h
  · simp at h
  · rename_i n x' hc
    split at h
    · rename_i i' hp
      simp only [Option.some.injEq, Prod.mk.injEq, Nat.add_right_cancel_iff] at h
      obtain ⟨rfl, rfl⟩ := h
      exact ⟨n + 1, by omega, posL_some hp, hc⟩
    · split at h <;> simp at h
theorem hereC_zero {x : Bool} (hn : (somes L).Nodup) (h : hereC L z col g = some (0, x)) : ∃ n, col g = some (n, x) ∧ (n = 0 ∨ n ∉ somes L) := by
  unfold hereC at h
  split at h
  · cases h
  · rename_i x' hc; cases h; exact ⟨0, hc, .inl rfl⟩
  · rename_i n x' hc
    split at h
    · simp at h
    · rename_i hp
      split at h
      · cases h
        refine ⟨n + 1, hc, .inr fun hm => ?_⟩
        obtain ⟨i, hi⟩ := somes_mem.1 hm
        rw [posL_of hn hi] at hp; cases hp
      · cases h
theorem hereC_free (hn : (somes L).Nodup) (h : hereC L z col g = none) : col g = none ∨ z = false ∧ ∃ n x, col g = some (n, x) ∧ n ≠ 0 ∧ n ∉ somes L := by
  unfold hereC at h
  split at h
  · rename_i hc; exact .inl hc
  · cases h
  · rename_i n x' hc
    split at h
    · simp at h
    · rename_i hp
      split at h
      · cases h
      · rename_i hz
        refine .inr ⟨by simpa using hz, n + 1, x', hc, by omega, fun hm => ?_⟩
        obtain ⟨i, hi⟩ := somes_mem.1 hm
        rw [posL_of hn hi] at hp; cases hp
theorem hereC_look (hz : z = false) {n : Nat} {x : Bool} (h0 : n ≠ 0) (hn : n ∉ somes L) (h : col g = some (n, x)) : hereC L z col g = none := by
  unfold hereC
  rw [h]
  cases n with
  | zero => exact absurd rfl h0
  | succ n =>
    have : posL L (n + 1) = none := by
      unfold posL
      rw [dif_neg (fun ⟨i, hi⟩ => hn (somes_mem.2 ⟨i, hi⟩))]
    simp only [this, hz]
    rfl
end

theorem looks_live {P : Program} {h : List Root} {t : Nat} {v y : AV} (hh : toVal P h t v = some y) : ∀ n ∈ looks v, ∃ r, getN h n = some r ∧ r ≠ .dead := by
  cases v <;> simp only [looks, List.mem_singleton, List.not_mem_nil, forall_eq, false_imp_iff, implies_true] <;> simp only [toVal, readSl] at hh
  all_goals (split at hh <;> first | (cases hh; done) | skip)
  all_goals (rename_i hr; split at hr <;> first | (cases hr; done) | skip)
  all_goals first | exact ⟨_, ‹_›, by simp⟩ | skip
theorem looksL_live {P : Program} {h : List Root} : ∀ {vs ys : List AV}, toVals P h vs = some ys → ∀ n ∈ looksL vs, ∃ r, getN h n = some r ∧ r ≠ .dead
  | [], _, _, n, hn => by cases hn
  | v :: vs, ys, hh, n, hn => by
    simp only [toVals] at hh
    split at hh
    · rename_i y ys' h1 h2
      simp only [looksL, List.mem_append] at hn
      rcases hn with hn | hn
      · exact looks_live h1 n hn
      · exact looksL_live h2 n hn
    · cases hh
theorem looksOf_live {P : Program} {h : List Root} : ∀ {ms : List Mode} {tys : List Nat} {as ts : List AV}, tsOf P h ms tys as = some ts → ∀ n ∈ looksOf h ms as, ∃ r, getN h n = some r ∧ r ≠ .dead
  | [], _, as, _, _, n, hn => by cases as <;> cases hn
  | m :: ms, tys, as, ts, hh, n, hn => by
    obtain ⟨t, tys', v, l, y, r, rfl, rfl, rfl, h1, h2⟩ := tsOf_cons hh
    simp only [looksOf, List.mem_append] at hn
    rcases hn with hn | hn
    · cases m with
      | val =>
        cases v <;> simp only [argOf] at h1 <;> first | exact looks_live h1 n hn | skip
        split at h1
        · rename_i ws hws; exact looksL_live hws n hn
        · cases h1
      | pbox t0 =>
        obtain ⟨m, vs, ws, rfl, rfl, h3, h4⟩ := arg_pbox h1
        simp only [looksA, h3] at hn
        exact looksL_live h4 n hn
      | _ => simp [looksA] at hn
    · exact looksOf_live h2 n hn
end Go.Proofs.YtlkbmcmglkdciaaE
