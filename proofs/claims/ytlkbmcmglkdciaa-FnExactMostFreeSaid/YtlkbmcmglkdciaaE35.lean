/- Signatures: the contract of a function from the shapes of its arguments and results. No condition. -/
import Derived.Test.YtlkbmcmglkdciaaE32
set_option linter.unusedVariables false
set_option linter.unusedSectionVars false
set_option linter.unusedSimpArgs false
namespace Go.Proofs.YtlkbmcmglkdciaaE
open Go Go.RowKit
theorem CSh.put_get : ∀ {s : CSh} {v : AV} {d : s.den}, s.get v = some d → s.put d = v := by
  intro s v d h
  cases s <;> cases v <;> simp only [CSh.get] at h <;> first | (cases h; done) | skip
  · obtain ⟨h1, h2⟩ := cn_some h
    cases h2
    rw [← of_decide_eq_true h1]; rfl
  · cases h; rfl
  · cases h; rfl
  · obtain ⟨h1, h2⟩ := cn_some h
    have := Nat.eq_of_beq_eq_true h1
    subst this
    split at h2
    · rename_i hk _; cases hk; cases h2; rfl
    · cases h2
  · obtain ⟨h1, h2⟩ := cn_some h
    have := Nat.eq_of_beq_eq_true h1
    subst this
    split at h2
    · rename_i hk _; cases hk; cases h2; rfl
    · cases h2
  · obtain ⟨h1, _⟩ := cn_some h
    rw [Nat.eq_of_beq_eq_true h1]; rfl
  · obtain ⟨h1, _⟩ := cn_some h
    rw [Nat.eq_of_beq_eq_true h1]; rfl
theorem putCs_get : ∀ {l : List CSh} {vs : List AV} {x : CsDen l}, getCs l vs = some x → putCs l x = vs
  | [], [], x, h => rfl
  | [], _ :: _, x, h => by cases h
  | [c], [v], x, h => by simp only [putCs]; rw [CSh.put_get h]
  | [c], [], x, h => by cases h
  | [c], _ :: _ :: _, x, h => by cases h
  | c :: d :: l, [], x, h => by cases h
  | c :: d :: l, v :: vs, x, h => by
    simp only [getCs] at h
    split at h
    · rename_i y z h1 h2
      cases h
      simp only [putCs]
      rw [CSh.put_get h1, putCs_get h2]
    · cases h
theorem Sh.put_get : ∀ {s : Sh} {v : AV} {x : s.den}, s.get v = some x → s.put x = v
  | .one c, v, x, h => CSh.put_get h
  | .agg l, v, x, h => by
    cases v <;> simp only [Sh.get] at h <;> first | (cases h; done) | skip
    simp only [Sh.put]; rw [putCs_get h]
theorem putSs_get : ∀ {l : List Sh} {vs : List AV} {x : ShsDen l}, getSs l vs = some x → putSs l x = vs
  | [], [], x, h => rfl
  | [], _ :: _, x, h => by cases h
  | [c], [v], x, h => by simp only [putSs]; rw [Sh.put_get h]
  | [c], [], x, h => by cases h
  | [c], _ :: _ :: _, x, h => by cases h
  | c :: d :: l, [], x, h => by cases h
  | c :: d :: l, v :: vs, x, h => by
    simp only [getSs] at h
    split at h
    · rename_i y z h1 h2
      cases h
      simp only [putSs]
      rw [Sh.put_get h1, putSs_get h2]
    · cases h
theorem OSh.put_get : ∀ {s : OSh} {v : Root} {x : s.den}, s.get v = some x → s.put x = v := by
  intro s v x h
  cases s <;> cases v <;> simp only [OSh.get] at h <;> first | (cases h; done) | skip
  · obtain ⟨h1, h2⟩ := cn_some h
    have := Nat.eq_of_beq_eq_true h1
    subst this
    split at h2
    · rename_i hk _; cases hk; cases h2; rfl
    · cases h2
  · obtain ⟨h1, h2⟩ := cn_some h
    have := Nat.eq_of_beq_eq_true h1
    subst this
    simp only [OSh.put]; rw [putCs_get h2]
theorem putOs_get : ∀ {l : List OSh} {vs : List Root} {x : OsDen l}, getOs l vs = some x → putOs l x = vs
  | [], [], x, h => rfl
  | [], _ :: _, x, h => by cases h
  | [c], [v], x, h => by simp only [putOs]; rw [OSh.put_get h]
  | [c], [], x, h => by cases h
  | [c], _ :: _ :: _, x, h => by cases h
  | c :: d :: l, [], x, h => by cases h
  | c :: d :: l, v :: vs, x, h => by
    simp only [getOs] at h
    split at h
    · rename_i y z h1 h2
      cases h
      simp only [putOs]
      rw [OSh.put_get h1, putOs_get h2]
    · cases h
theorem exD_ok {rs : List Sh} : ∀ {os : List OSh} {vs : List AV} {hs : List Root} {d : DDen rs os}, exD rs os vs hs = some d → retD rs os d = vs ∧ outD rs os d = hs
  | [], vs, [], d, h => ⟨putSs_get h, rfl⟩
  | [], _, _ :: _, d, h => by cases h
  | o :: os, vs, hs, d, h => by
    simp only [exD] at h
    split at h
    · rename_i x y h1 h2
      cases h
      exact ⟨putSs_get h1, putOs_get h2⟩
    · cases h
/-- A value that is not looked into. -/
noncomputable def opq {A : Type} (a : A) : A := (Classical.choice (⟨⟨a, rfl⟩⟩ : Nonempty { b : A // b = a })).1
theorem opq_eq {A : Type} (a : A) : opq a = a := (Classical.choice (⟨⟨a, rfl⟩⟩ : Nonempty { b : A // b = a })).2
def CtrsOk (P : Program) (C : List (Nat × Ctr)) : Prop := ∀ g c, ctrOf C g = some c → CtrOk P g c
theorem CtrsOk.nil {P : Program} : CtrsOk P [] := fun g c h => by cases h
theorem CtrsOk.cons {P : Program} {f : Nat} {c : Ctr} {C : List (Nat × Ctr)} (h : CtrOk P f c) (t : CtrsOk P C) : CtrsOk P ((f, c) :: C) := fun g c' hg => by
  simp only [ctrOf, cn] at hg
  cases hb : Nat.beq f g with
  | true => rw [hb] at hg; cases hg; rw [← Nat.eq_of_beq_eq_true hb]; exact h
  | false => rw [hb] at hg; exact t g c' hg
theorem sig_ok {P : Program} (s : Sig) {C : List (Nat × Ctr)} {k : Nat} {F : ShsDen s.as → Option (DDen s.rs s.os)} (hC : CtrsOk P C) (hg : s.good P = true) (hF : ∀ x, F x = s.run P C k x) : CtrOk P s.f (s.ctr F) := by
  unfold Sig.good at hg
  split at hg
  case h_2 => cases hg
  rename_i fn hf
  simp only [Bool.and_eq_true, Bool.not_eq_true', decide_eq_false_iff_not] at hg
  obtain ⟨code, hb⟩ := Option.isSome_iff_exists.1 hg.1
  refine fn_ok (C := C) (k := k) (lv := s.lv) (rsh := s.rs) (ex := exD s.rs s.os) hC hf hb hg.2 rfl (fun ts d h => ?_) (fun rs os d h => exD_ok h)
  cases hx : getSs s.as ts with
  | none => simp only [Sig.ctr, hx] at h; cases h
  | some x =>
    simp only [Sig.ctr, hx, Option.bind_some] at h
    rw [hF x] at h
    unfold Sig.run at h
    rw [putSs_get hx] at h
    exact h
end Go.Proofs.YtlkbmcmglkdciaaE
