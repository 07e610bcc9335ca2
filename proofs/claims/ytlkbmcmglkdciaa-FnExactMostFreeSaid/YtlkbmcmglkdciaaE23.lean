/- Operations in a row, and code: what the executor tells, holds. No condition. -/
import Derived.Test.YtlkbmcmglkdciaaE22
set_option linter.unusedVariables false
set_option linter.unusedSectionVars false
set_option linter.unusedSimpArgs false
namespace Go.Proofs.YtlkbmcmglkdciaaE
open Go Go.RowKit

def XE.ex : XE → Exit
  | .normal => .normal
  | .exit id => .exit id
  | .ret => .ret

section
variable {R : Type} {r : R} {own0 : Own} {w0 : World}

/-- A function value: which function, and what it has captured. -/
def IsFn (v : Option AV) (g : Nat) (ex : List AV) : Prop := (v = some (.fn g) ∧ ex = []) ∨ v = some (.clo g ex)
/-- A call holds, whatever comes behind it. -/
def CallsOk (X : Ctx) : Prop := ∀ {R : Type} {r : R} {own0 : Own} {w0 : World} {st : St} {a : Act} {w : World} {β : Bs} {col : Col} (g : Nat) (o : Oper) (f : Operand) (args : Array Operand) (tys : Array Nat) (as ex : List AV) (κ : St → Option R)
  (K : Act → World → Prop) (Q : Exit → Act → World → Prop),
  o.op = .call { callee := .value f, args := args, argTypes := tys } → IsFn (ev st f) g ex → evs st args.toList = some as →
  Sat own0 w0 st a w β col → callX X g o (as ++ ex) st κ = some r →
  (∀ st' a' w' β' col', κ st' = some r → Sat own0 w0 st' a' w' β' col' → (∀ q, wrX X q o = false → BelowQ q w w') → K a' w') → o.wp X.P a w K Q

variable {X : Ctx}
theorem opX_ok (hC : CallsOk X) {st : St} {a : Act} {w : World} {β : Bs} {col : Col} {o : Oper} {κ : St → Option R} {K : Act → World → Prop} {Q : Exit → Act → World → Prop}
    (S : Sat own0 w0 st a w β col) (h : opX X o st κ = some r)
    (hK : ∀ st' a' w' β' col', κ st' = some r → Sat own0 w0 st' a' w' β' col' → (∀ q, wrX X q o = false → BelowQ q w w') → K a' w') : o.wp X.P a w K Q := by
  have plain : (∀ f args tys, o.op ≠ .call { callee := .value f, args := args, argTypes := tys }) → (match stepX X.P o st with
    | some (c, v, st') => gd c (match st'.put o.dst v with | some s => κ s | none => none)
    | none => none) = some r → o.wp X.P a w K Q := by
    intro hno h
    have hwr : ∀ q, wrX X q o = wrQ X.P q o := by
      intro q
      unfold wrX
      cases hq : qFree q with
      | true => unfold wrQ; rw [hq]; rfl
      | false =>
      show (match o.op with
        | .call { callee := .value f, args := _, argTypes := _ } => match f with
          | .func g => match ctrOf X.C g with | some c => !(c.modes.all isVal) | none => true
          | _ => true
        | _ => wrQ X.P q o) = _
      split
      · rename_i f args tys ho; exact absurd ho (hno f args tys)
      · rfl
    split at h
    · rename_i c v st' h1
      cases c
      · cases h
      · simp only [gd] at h
        split at h
        · rename_i s hs
          obtain ⟨x, w', β', col', hr, S', hv, hb⟩ := step_ok S h1
          have hput := S'.put hs hv
          unfold Oper.wp
          rcases hr with hr | ⟨hr, rfl⟩
          · rw [hr]; exact hK _ _ _ _ _ h hput (fun q hq => hb q (by rw [← hwr]; exact hq))
          · rw [hr]; exact hK _ _ _ _ _ h hput (fun q hq => hb q (by rw [← hwr]; exact hq))
        · cases h
    · cases h
  unfold opX at h
  split at h
  · rename_i f args tys ho
    split at h
    · rename_i g as h1 h2
      exact hC g o f args tys as [] κ K Q ho (.inl ⟨h1, rfl⟩) h2 S (by rw [List.append_nil]; exact h) hK
    · rename_i g vs as h1 h2
      exact hC g o f args tys as vs κ K Q ho (.inr h1) h2 S h hK
    · cases h
  · rename_i hno
    exact plain (fun f args tys e => hno f args tys e) h

theorem yielded_ok {st : St} {a : Act} {w : World} {β : Bs} {col : Col} (S : Sat own0 w0 st a w β col) {ops : Array Oper} {j t : Nat} {g : Oper} (hg : ops[j]? = some g) (ht : g.dst = some t) :
    (∀ b, lk st.env t = .bool b → yielded ops a.tmps j = some b) := by
  intro b hb
  have := S.env t
  rw [hb] at this
  have h2 : a.tmps.getD t undef = .bool b := this
  unfold yielded
  rw [hg]
  simp only [Option.bind_some, ht]
  rw [Array.getD_eq_getD_getElem?] at h2
  cases h3 : a.tmps[t]? with
  | none => rw [h3] at h2; cases h2
  | some v => rw [h3] at h2; simp only [Option.getD_some] at h2; rw [h2]
theorem yielded_none {st : St} {a : Act} {w : World} {β : Bs} {col : Col} (S : Sat own0 w0 st a w β col) {ops : Array Oper} {j t : Nat} {g : Oper} (hg : ops[j]? = some g) (ht : g.dst = some t)
    (hb : lk st.env t = .tup []) : yielded ops a.tmps j = none := by
  have := S.env t
  rw [hb] at this
  obtain ⟨cs, h2, _⟩ := this
  unfold yielded
  rw [hg]
  simp only [Option.bind_some, ht]
  rw [Array.getD_eq_getD_getElem?] at h2
  cases h3 : a.tmps[t]? with
  | none => rfl
  | some v => rw [h3] at h2; simp only [Option.getD_some] at h2; rw [h2]
theorem Sat.skip {st : St} {a : Act} {w : World} {β : Bs} {col : Col} (S : Sat own0 w0 st a w β col) {d : Option Nat} {st' : St} (h : st.put d (.tup []) = some st') : Sat own0 w0 st' (a.put d undef) w β col :=
  S.put h ⟨#[], rfl, trivial⟩
theorem Sat.again {st : St} {a : Act} {w : World} {β : Bs} {col : Col} (S : Sat own0 w0 st a w β col) (t : Nat) : Sat own0 w0 { st with env := (t, lk st.env t) :: st.env } a w β col :=
  ⟨fun t' => by
    show vrel _ _ _ _ (lk ((t, lk st.env t) :: st.env) t') _
    rw [lk_cons]
    split
    · rename_i e; subst e; exact S.env t
    · exact S.env t', S.heap, S.nt, S.defers, S.fr, S.col, S.zero, S.zon, S.fix⟩

theorem wpOp_list {ops : Array Oper} {i : Nat} {o : Oper} (ho : ops[i]? = some o) {Q : Exit → Act → World → Prop} {K : Act → World → Prop} {a : Act} {w : World} :
    wpOp X.P ops Q i K a w = (if Region.wanted o (yielded ops a.tmps) then o.wp X.P a w K Q ∨ (o.asks X.P a w ∧ LetsOut Q) else K (a.put o.dst undef) w) := by
  unfold wpOp; rw [ho]
/-- An operation with its guard. -/
theorem guardX_ok (hC : CallsOk X) {ops : Array Oper} {Q : Exit → Act → World → Prop} {o : Oper} {st : St} {a : Act} {w : World} {β : Bs} {col : Col} {κ : St → Option R} {K : Act → World → Prop}
    (S : Sat own0 w0 st a w β col) (h : guardX X ops.toList o st κ = some r)
    (hK : ∀ st' a' w' β' col', κ st' = some r → Sat own0 w0 st' a' w' β' col' → (∀ q, wrX X q o = false → BelowQ q w w') → K a' w') :
    (if Region.wanted o (yielded ops a.tmps) then o.wp X.P a w K Q ∨ (o.asks X.P a w ∧ LetsOut Q) else K (a.put o.dst undef) w) := by
  unfold guardX at h
  split at h
  · rename_i hg
    rw [if_pos (by unfold Region.wanted; rw [hg])]
    exact .inl (opX_ok hC S h hK)
  · rename_i j want hg
    split at h
    case h_2 => cases h
    rename_i g hgj
    rw [getN_eq, Array.getElem?_toList] at hgj
    split at h
    case h_2 => cases h
    rename_i t ht
    have hw : Region.wanted o (yielded ops a.tmps) = (yielded ops a.tmps j == some want) := by unfold Region.wanted; rw [hg]
    split at h
    · rename_i b hb
      have hy := yielded_ok S hgj ht b hb
      rw [hw, hy]
      have S1 : Sat own0 w0 { st with env := (t, .bool b) :: st.env } a w β col := by have := S.again t; rw [hb] at this; exact this
      have step : ∀ v, v = b → cn (cn v want (!want)) (opX X o { st with env := (t, .bool v) :: st.env } κ)
            (match ({ st with env := (t, .bool v) :: st.env } : St).put o.dst (.tup []) with | some s => κ s | none => none) = some r →
          (if (some b == some want) = true then o.wp X.P a w K Q ∨ (o.asks X.P a w ∧ LetsOut Q) else K (a.put o.dst undef) w) := by
        rintro v rfl h
        rcases cn_or h with ⟨h1, h2⟩ | ⟨h1, h2⟩
        · have : v = want := by cases v <;> cases want <;> simp_all [cn]
          subst this
          rw [if_pos (by simp)]
          exact .inl (opX_ok hC S1 h2 hK)
        · have : ¬ v = want := by cases v <;> cases want <;> simp_all [cn]
          rw [if_neg (by simpa using this)]
          split at h2
          · rename_i s hs
            exact hK _ _ _ _ _ h2 (S1.skip hs) (fun q _ => BelowQ.refl q _)
          · cases h2
      rcases cn_or h with ⟨rfl, h⟩ | ⟨rfl, h⟩
      · exact step true rfl h
      · exact step false rfl h
    · rename_i hb
      have hy := yielded_none S hgj ht hb
      rw [hw, hy]
      rw [if_neg (by simp)]
      split at h
      · rename_i s hs
        exact hK _ _ _ _ _ h (S.skip hs) (fun q _ => BelowQ.refl q _)
      · cases h
    · cases h

theorem opsX_ok (hC : CallsOk X) {ops : Array Oper} {Q : Exit → Act → World → Prop} : ∀ (l : List Oper) {st : St} {a : Act} {w : World} {β : Bs} {col : Col} {κ : St → Option R},
    Sat own0 w0 st a w β col → opsX X ops.toList l st κ = some r →
    (∀ st' a' w' β' col', κ st' = some r → Sat own0 w0 st' a' w' β' col' → Q .normal a' w') → wpList X.P ops Q l a w
  | [], st, a, w, β, col, κ, S, h, hK => hK _ _ _ _ _ h S
  | o :: os, st, a, w, β, col, κ, S, h, hK => by
    simp only [opsX] at h
    unfold wpList
    exact guardX_ok hC S h fun st' a' w' β' col' h' S' _ => opsX_ok hC os S' h' hK
end
end Go.Proofs.YtlkbmcmglkdciaaE
