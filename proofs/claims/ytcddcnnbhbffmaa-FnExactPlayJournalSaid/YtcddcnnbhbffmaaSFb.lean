/- A drawn region of plain operations inside a fence. No condition. -/
import Derived.RangeFuncNested
import Derived.OrdersIn
import Derived.OwnWalkIn
import Derived.Test.YtcddcnnbhbffmaaE35
set_option linter.unusedVariables false
namespace Go.Proofs.YtcddcnnbhbffmaaE
open Go Go.RowKit

/-- An operation that calls nothing: it yields a value, or nothing, or stops. -/
def plain (o : Oper) : Prop := (∀ c, o.op ≠ .defer c) ∧ (∀ (P : Program) (ρ : Operand → Value) (w : World), o.about P w ρ = none) ∧
  ∀ (P : Program) (ρ : Operand → Value) (w : World), match (execOp ρ o).run P w with | .ok (.value _) _ | .ok .skip _ | .halt _ _ => True | _ => False
theorem plain_val {P : Program} {w : World} (s : Sem Value) : match ((do let x ← s; pure (Next.value x) : Sem Next)).run P w with | .ok (.value _) _ | .ok .skip _ | .halt _ _ => True | _ => False := by
  show match (s >>= fun x => pure (Next.value x)).run P w with | .ok (.value _) _ | .ok .skip _ | .halt _ _ => True | _ => False
  cases h : s.run P w with
  | ok v w' => rw [run_then h]; trivial
  | halt e w' =>
    have : (s >>= fun x => pure (Next.value x) : Sem Next).run P w = .halt e w' := by
      rw [Sem.run_bind, h]; rfl
    rw [this]; trivial
theorem plain_unit {P : Program} {w : World} (s : Sem Unit) : match ((do s; pure Next.skip : Sem Next)).run P w with | .ok (.value _) _ | .ok .skip _ | .halt _ _ => True | _ => False := by
  show match (s >>= fun _ => pure Next.skip).run P w with | .ok (.value _) _ | .ok .skip _ | .halt _ _ => True | _ => False
  cases h : s.run P w with
  | ok v w' => rw [run_then h]; trivial
  | halt e w' =>
    have : (s >>= fun _ => pure Next.skip : Sem Next).run P w = .halt e w' := by
      rw [Sem.run_bind, h]; rfl
    rw [this]; trivial
theorem wpIn_plain {F : Fence} {n : Nat} {P : Program} {o : Oper} {a : Act} {w : World} {K : Act → World → Prop} {Q Q' : Exit → Act → World → Prop} (hp : plain o) (hQ : ∀ c a w, ¬ Q (.panic c) a w) (h : o.wp P a w K Q) : o.wpIn F n P a w K Q' := by
  refine ⟨fun f hf => ?_, ?_⟩
  · rw [hp.2.1] at hf; cases hf
  · rw [Oper.semAt_plain F _ _ hp.1]
    have h3 := hp.2.2 P a.eval w
    unfold Oper.wp at h
    revert h h3
    cases (execOp a.eval o).run P w with
    | ok x w' => cases x <;> intro h h3 <;> first | exact h | exact h3.elim
    | halt e w' => cases e <;> intro h h3 <;> first | exact h.elim | exact absurd h (hQ _ _ _)
theorem wpAnyIn_of_L {F : Fence} {n : Nat} {P : Program} {ops : Array Oper} {wr : Option Nat → Nat → Bool} {Q Q' : Exit → Act → World → Prop} (hp : ∀ (i : Nat) (o : Oper), ops[i]? = some o → plain o) (hQ : ∀ c a w, ¬ Q (.panic c) a w) (hO : ¬ LetsOut Q) (hN : ∀ a w, Q .normal a w → Q' .normal a w) :
    ∀ (fuel : Nat) (listed : Array Bool) (a : Act) (w : World), wpAnyL P ops wr Q fuel listed a w → wpAnyIn F n P .any ops Q' fuel listed a w
  | 0, _, _, _, h => ⟨h.1, hN _ _ h.2⟩
  | fuel + 1, listed, a, w, h => by
    refine ⟨fun hr => hN _ _ (h.1 hr), fun i hi => ?_⟩
    have h1 := h.2 i hi
    unfold wpOp at h1
    unfold wpOpIn
    cases ho : ops[i]? with
    | none => rw [ho] at h1; exact wpAnyIn_of_L hp hQ hO hN fuel _ _ _ h1.2
    | some o =>
      rw [ho] at h1
      simp only at h1 ⊢
      split at h1
      · rename_i hw
        rw [if_pos hw]
        rcases h1 with h1 | h1
        · exact wpIn_plain (hp i o ho) hQ (Oper.wp_mono (fun a' w' h' => wpAnyIn_of_L hp hQ hO hN fuel _ _ _ h'.2) h1)
        · exact absurd h1.2 hO
      · rename_i hw
        rw [if_neg hw]
        exact ⟨fun f hf => (by rw [(hp i o ho).2.1] at hf; cases hf), wpAnyIn_of_L hp hQ hO hN fuel _ _ _ h1.2⟩

/-- A region whose order is drawn, of plain operations, inside a fence. -/
theorem drawIn_ok {F : Fence} {n : Nat} {R : Type} {r : R} {own0 : Own} {w0 : World} {X : Ctx} (hC : CallsOk X) {id : Nat} {ops : Array Oper} {st : St} {a : Act} {w : World} {β : Bs} {col : Col} {κ : St → Option R} {Q' : Exit → Act → World → Prop} {G : Act → World → Prop}
    (hp : ∀ (i : Nat) (o : Oper), ops[i]? = some o → plain o) (S : Sat own0 w0 st a w β col) (h : drawX X ops st κ = some r)
    (hK : ∀ st' a' w' β' col', κ st' = some r → Sat own0 w0 st' a' w' β' col' → G a' w') (hG : ∀ a w, G a w → Q' .normal a w) : (Code.region id ops true).wpIn F n X.P Q' a w := by
  unfold drawX at h
  obtain ⟨h1, h2⟩ := cn_some h
  simp only [Bool.and_eq_true] at h1
  let Q : Exit → Act → World → Prop := fun e a w => e = .normal ∧ G a w
  have S' : Sat own0 w0 st a { w with drawn := w.drawn + 1 } β col := by
    have hzk : Zk col col w { w with drawn := w.drawn + 1 } := ⟨fun g o hg hw => ⟨hg, hw⟩⟩
    have weak : ∀ n, Weak st.heap st.heap β β n := fun n => ⟨rfl, fun s hs => ⟨s.xs, hs, rfl⟩, fun r hr => ⟨r, hr, rfl, rfl⟩⟩
    have same : ∀ n, Same st.heap st.heap β β col col w { w with drawn := w.drawn + 1 } n := fun n => ⟨rfl, rfl, fun g o _ hw => ⟨rfl, hw⟩⟩
    refine S.move hzk (p := (· < st.heap.length)) (q := (· < st.heap.length)) (fun n _ => weak n) (fun n _ => same n) (fun t => .inr ⟨rfl, vrel_sees _ _ (S.env t)⟩) (fun n r hr => ?_) ⟨S.fr.os, S.fr.tape, S.fr.output, S.fr.size, S.fr.block⟩ S.col S.zero (fun g _ h => h) (fun n r _ hr => ⟨rfl, r, hr, Shape.refl r⟩)
    refine rootRel_keep hzk (p := (· < st.heap.length)) (q := (· < st.heap.length)) (fun n _ => weak n) (fun n _ => same n) S.heap (same n) r (fun t vs e => ?_) (S.heap n r hr)
    subst e
    obtain ⟨b, cs, _, _, _, _, h5, _⟩ := S.heap n _ hr
    exact vrels_sees vs _ h5
  have N : ND ops (Array.replicate ops.size false) [] := ⟨by simp, fun i hi => by simp [hi, notIn], fun i hi => by cases hi⟩
  have C : Closed ops (Array.replicate ops.size false) := fun l o hl _ _ _ _ => by
    rw [Array.getD_eq_getD_getElem?, Array.getElem?_replicate] at hl
    split at hl <;> cases hl
  have main := drawGo_ok (Q := Q) hC h1.2 (fun c a w h => by cases h.1) (fun st' a' w' β' col' h' S' => ⟨rfl, hK _ _ _ _ _ h' S'⟩) ops.size N C S' h2
  exact wpIn_region_any h1.1 (wpAnyIn_of_L hp (fun c a w h => by cases h.1) (fun ⟨a, w, h⟩ => by cases h.1) (fun a w h => hG _ _ h.2) _ _ _ _ main)
end Go.Proofs.YtcddcnnbhbffmaaE
