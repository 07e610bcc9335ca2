/- Code: what the executor tells, holds. No condition. -/
import Derived.Test.YtlkbmcmglkdciaaE34
set_option linter.unusedVariables false
set_option linter.unusedSectionVars false
set_option linter.unusedSimpArgs false
namespace Go.Proofs.YtlkbmcmglkdciaaE
open Go Go.RowKit


section
variable {R : Type} {r : R} {own0 : Own} {w0 : World} {X : Ctx}
theorem blockK_ok {κ : XE → St → Option R} {Q : Exit → Act → World → Prop} {id : Nat}
    (hK : ∀ e st' a' w' β' col', κ e st' = some r → Sat own0 w0 st' a' w' β' col' → Q e.ex a' w') :
    ∀ e st' a' w' β' col', blockK id κ e st' = some r → Sat own0 w0 st' a' w' β' col' → Exit.inBlock id Q e.ex a' w' := by
  intro e st' a' w' β' col' h S
  cases e with
  | normal => exact hK .normal _ _ _ _ _ h S
  | ret => exact hK .ret _ _ _ _ _ h S
  | exit j =>
    simp only [blockK] at h
    simp only [XE.ex, Exit.inBlock]
    rcases cn_or h with ⟨h1, h2⟩ | ⟨h1, h2⟩
    · rw [if_pos (Nat.eq_of_beq_eq_true h1)]; exact hK .normal _ _ _ _ _ h2 S
    · rw [if_neg (fun e => by subst e; simp at h1)]; exact hK (.exit j) _ _ _ _ _ h2 S

theorem iterX_ok (hp : 0 < X.np) {b : Code} {lv : List (Nat × Bool)} {κ : XE → St → Option R} {Q : Exit → Act → World → Prop}
    (hb : ∀ {st : St} {a : Act} {w : World} {β : Bs} {col : Col} {κ : XE → St → Option R} {Q : Exit → Act → World → Prop}, Sat own0 w0 st a w β col → codeX X b st κ = some r →
      (∀ e st' a' w' β' col', κ e st' = some r → Sat own0 w0 st' a' w' β' col' → Q e.ex a' w') → b.wp X.P Q a w)
    (hK : ∀ e st' a' w' β' col', κ e st' = some r → Sat own0 w0 st' a' w' β' col' → Q e.ex a' w') :
    ∀ (n : Nat) {st : St} {a : Act} {w : World} {β : Bs} {col : Col}, Sat own0 w0 st a w β col → iterX X.np lv (fun s k => codeX X b s k) n st κ = some r → Code.rounds X.P b Q n a w
  | 0, _, _, _, _, _, _, h => by cases h
  | n + 1, st, a, w, β, col, S, h => by
    rw [rounds_succ]
    refine hb S h fun e st' a' w' β' col' h' S' => ?_
    cases e with
    | normal =>
      obtain ⟨st2, β2, col2, h2, S2, _⟩ := norm_ok S' hp h'
      exact iterX_ok hp hb hK n S2 h2
    | exit j => exact hK (.exit j) _ _ _ _ _ h' S'
    | ret => exact hK .ret _ _ _ _ _ h' S'

def Good {R : Type} (r : R) (own0 : Own) (w0 : World) (X : Ctx) (c : Code) : Prop := ∀ {st : St} {a : Act} {w : World} {β : Bs} {col : Col} {κ : XE → St → Option R} {Q : Exit → Act → World → Prop},
    Sat own0 w0 st a w β col → codeX X c st κ = some r →
    (∀ e st' a' w' β' col', κ e st' = some r → Sat own0 w0 st' a' w' β' col' → Q e.ex a' w') → c.wp X.P Q a w
theorem good_ok (hC : CallsOk X) (hp : 0 < X.np) (c : Code) : Good r own0 w0 X c ∧ ∀ b, c = .loop b → Good r own0 w0 X b := by
  induction c with
  | skip => exact ⟨fun {st a w β col κ Q} S h hK => wp_skip (hK .normal _ _ _ _ _ h S), fun b e => by cases e⟩
  | region id ops d =>
    refine ⟨fun {st a w β col κ Q} S h hK => ?_, fun b e => by cases e⟩
    unfold codeX at h
    cases d with
    | true => exact drawX_ok hC S h fun st' a' w' β' col' h' S' => hK .normal _ _ _ _ _ h' S'
    | false => exact wp_region_list (opsX_ok hC _ S h fun st' a' w' β' col' h' S' => hK .normal _ _ _ _ _ h' S')
  | seq x y ihx ihy =>
    refine ⟨fun {st a w β col κ Q} S h hK => ?_, fun b e => by cases e⟩
    unfold codeX at h
    refine wp_seq (ihx.1 S h fun e st' a' w' β' col' h' S' => ?_)
    cases e with
    | normal =>
      simp only [contX] at h'
      split at h'
      · obtain ⟨st2, β2, col2, h2, S2, _⟩ := norm_ok S' hp h'
        exact ihy.1 S2 h2 hK
      · exact ihy.1 S' h' hK
    | exit j => exact hK (.exit j) _ _ _ _ _ h' S'
    | ret => exact hK .ret _ _ _ _ _ h' S'
  | cond c x y ihx ihy =>
    refine ⟨fun {st a w β col κ Q} S h hK => ?_, fun b e => by cases e⟩
    unfold codeX at h
    split at h
    · rename_i v hv
      have hc : a.eval c = .bool v := ev_ok S hv
      rcases cn_or h with ⟨rfl, h⟩ | ⟨rfl, h⟩
      · exact wp_cond_true hc (ihx.1 S h hK)
      · exact wp_cond_false hc (ihy.1 S h hK)
    · rename_i v hv
      obtain ⟨b, hc, hb⟩ := ev_ok S hv
      rcases cn_or h with ⟨rfl, h⟩ | ⟨rfl, h⟩
      · obtain ⟨e1, e2⟩ := both_some h
        cases b with
        | true => exact wp_cond_true hc (ihx.1 S e1 hK)
        | false => exact wp_cond_false hc (ihy.1 S e2 hK)
      · have := hb rfl
        subst this
        exact wp_cond_false hc (ihy.1 S h hK)
    · cases h
  | block id b ih =>
    refine ⟨fun {st a w β col κ Q} S h hK => ?_, fun b e => by cases e⟩
    by_cases hl : ∃ c, b = .loop c
    · obtain ⟨c, rfl⟩ := hl
      unfold codeX at h
      split at h
      · exact wp_block (wp_loop_rounds (X.k + 1) (iterX_ok hp (b := c) (fun {st a w β col κ Q} S h hK => ih.2 c rfl S h hK) (blockK_ok hK) (X.k + 1) S h))
      obtain ⟨st2, β2, col2, h2, S2, _⟩ := norm_ok S hp h
      exact wp_block (wp_loop_rounds X.k (iterX_ok hp (b := c) (fun {st a w β col κ Q} S h hK => ih.2 c rfl S h hK) (blockK_ok hK) X.k S2 h2))
    · have : codeX X (.block id b) st κ = codeX X b st (blockK id κ) := by
        cases b <;> first | rfl | exact absurd ⟨_, rfl⟩ hl
      rw [this] at h
      exact wp_block (ih.1 S h (blockK_ok hK))
  | loop b ih => exact ⟨fun {st a w β col κ Q} S h hK => (by cases h), fun c e => (by cases e; exact ih.1)⟩
  | exit id => exact ⟨fun {st a w β col κ Q} S h hK => wp_exit (hK (.exit id) _ _ _ _ _ h S), fun b e => by cases e⟩
  | ret => exact ⟨fun {st a w β col κ Q} S h hK => wp_ret (hK .ret _ _ _ _ _ h S), fun b e => by cases e⟩
  | _ => exact ⟨fun {st a w β col κ Q} S h hK => (by cases h), fun b e => (by cases e)⟩
theorem codeX_ok (hC : CallsOk X) (hp : 0 < X.np) (c : Code) : Good r own0 w0 X c := (good_ok hC hp c).1
end
end Go.Proofs.YtlkbmcmglkdciaaE
