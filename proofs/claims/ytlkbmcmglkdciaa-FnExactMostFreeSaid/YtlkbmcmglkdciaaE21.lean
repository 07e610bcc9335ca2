/- The head of a loop: slots kept, roots numbered anew. No condition. -/
import Derived.Test.YtlkbmcmglkdciaaE20
set_option linter.unusedVariables false
set_option linter.unusedSectionVars false
set_option linter.unusedSimpArgs false
namespace Go.Proofs.YtlkbmcmglkdciaaE
open Go Go.RowKit

inductive RV (m : List (Nat × Nat)) : AV → AV → Prop where
  | same {v : AV} (h : refless v = true) : RV m v v
  | ref {n n' : Nat} (h : renGet m n = some n') : RV m (.ref n) (.ref n')
  | win {n n' lo len : Nat} (h : renGet m n = some n') : RV m (.win n lo len) (.win n' lo len)
  | sub {n n' i c : Nat} (h : renGet m n = some n') : RV m (.sub n i c) (.sub n' i c)
  | ptr {n n' i c : Nat} (h : renGet m n = some n') : RV m (.ptr n i c) (.ptr n' i c)
inductive CR (m : List (Nat × Nat)) : List AV → List AV → Prop where
  | nil : CR m [] []
  | cons {v w : AV} {l l' : List AV} (h : RV m v w) (t : CR m l l') : CR m (v :: l) (w :: l')
inductive RR (m : List (Nat × Nat)) : Root → Root → Prop where
  | dead : RR m .dead .dead
  | rows {e : Nat} {k : Kind} {xs : List k.den} : RR m (.rows e k xs) (.rows e k xs)
  | box {t : Nat} {vs ws : List AV} (h : CR m vs ws) (hc : ws.all cellOk = true) : RR m (.box t vs) (.box t ws)
def Ext (m m' : List (Nat × Nat)) : Prop := ∀ o n, renGet m o = some n → renGet m' o = some n
theorem RV.mono {m m' : List (Nat × Nat)} (h : Ext m m') {v w : AV} (r : RV m v w) : RV m' v w := by
  cases r with
  | same hh => exact .same hh
  | ref hh => exact .ref (h _ _ hh)
  | win hh => exact .win (h _ _ hh)
  | sub hh => exact .sub (h _ _ hh)
  | ptr hh => exact .ptr (h _ _ hh)
theorem CR.mono {m m' : List (Nat × Nat)} (h : Ext m m') {v w : List AV} (r : CR m v w) : CR m' v w := by
  induction r with
  | nil => exact .nil
  | cons a b ih => exact .cons (a.mono h) ih
theorem RR.mono {m m' : List (Nat × Nat)} (h : Ext m m') {v w : Root} (r : RR m v w) : RR m' v w := by
  cases r with
  | dead => exact .dead
  | rows => exact .rows
  | box a b => exact .box (a.mono h) b

structure RI (old : List Root) (r : Ren) : Prop where
  lt : ∀ o n, renGet r.m o = some n → n < r.h.length
  inj : ∀ o1 o2 n, renGet r.m o1 = some n → renGet r.m o2 = some n → o1 = o2
  rel : ∀ o n, renGet r.m o = some n → ∃ r0 r1, getN old o = some r0 ∧ getN r.h n = some r1 ∧ RR r.m r0 r1
  sur : ∀ n r1, getN r.h n = some r1 → (∃ o, renGet r.m o = some n) ∨ ∃ e k, r1 = .rows e k []
structure RX (r r' : Ren) : Prop where
  ext : Ext r.m r'.m
  len : r.h.length ≤ r'.h.length
  keep : ∀ n, n < r.h.length → getN r'.h n = getN r.h n
  new : ∀ o n, renGet r'.m o = some n → renGet r.m o = some n ∨ r.h.length ≤ n
theorem RX.refl (r : Ren) : RX r r := ⟨fun _ _ h => h, Nat.le_refl _, fun _ _ => rfl, fun _ _ h => .inl h⟩
theorem RX.trans {a b c : Ren} (h : RX a b) (k : RX b c) : RX a c :=
  ⟨fun o n hh => k.ext o n (h.ext o n hh), Nat.le_trans h.len k.len, fun n hn => (k.keep n (by have := h.len; omega)).trans (h.keep n hn), fun o n hh => by
    rcases k.new o n hh with h1 | h1
    · exact h.new o n h1
    · exact .inr (by have := h.len; omega)⟩
theorem renGet_cons (a b : Nat) (l : List (Nat × Nat)) (n : Nat) : renGet ((a, b) :: l) n = if a = n then some b else renGet l n := by
  simp only [renGet, cn]
  cases h : Nat.beq a n with
  | true => rw [if_pos (Nat.eq_of_beq_eq_true h)]
  | false => rw [if_neg (fun e => by subst e; simp at h)]

/-- One more root, under a number of its own. -/
theorem RI.add {old : List Root} {r : Ren} (R : RI old r) {o : Nat} {r0 r1 : Root} (ho : renGet r.m o = none) (h0 : getN old o = some r0) (hr : RR ((o, lenN r.h) :: r.m) r0 r1) :
    RI old ⟨(o, lenN r.h) :: r.m, hpush r.h r1⟩ ∧ RX r ⟨(o, lenN r.h) :: r.m, hpush r.h r1⟩ ∧ renGet ((o, lenN r.h) :: r.m) o = some (lenN r.h) := by
  have hl : (hpush r.h r1).length = r.h.length + 1 := by simp [hpush]
  have ext : Ext r.m ((o, lenN r.h) :: r.m) := fun o' n' h => by
    rw [renGet_cons]
    split
    · rename_i e; subst e; rw [ho] at h; cases h
    · exact h
  have get : ∀ o' n', renGet ((o, lenN r.h) :: r.m) o' = some n' → (o' = o ∧ n' = r.h.length) ∨ renGet r.m o' = some n' := fun o' n' h => by
    rw [renGet_cons] at h
    split at h
    · rename_i e; cases h; exact .inl ⟨e.symm, lenN_eq _⟩
    · exact .inr h
  refine ⟨⟨fun o' n' h => ?_, fun o1 o2 n h1 h2 => ?_, fun o' n' h => ?_, fun n' r' h => ?_⟩, ⟨ext, by rw [hl]; omega, fun n hn => by rw [getN_push, if_pos hn], fun o' n' h => ?_⟩, by rw [renGet_cons, if_pos rfl]⟩
  · rcases get o' n' h with ⟨_, rfl⟩ | h
    · rw [hl]; omega
    · have := R.lt o' n' h; rw [hl]; omega
  · rcases get o1 n h1 with ⟨e1, e2⟩ | k1 <;> rcases get o2 n h2 with ⟨e3, e4⟩ | k2
    · rw [e1, e3]
    · have := R.lt o2 n k2; omega
    · have := R.lt o1 n k1; omega
    · exact R.inj o1 o2 n k1 k2
  · rcases get o' n' h with ⟨rfl, rfl⟩ | h
    · exact ⟨r0, r1, h0, by rw [getN_push, if_neg (by omega), if_pos rfl], hr⟩
    · obtain ⟨a, b, k1, k2, k3⟩ := R.rel o' n' h
      exact ⟨a, b, k1, by rw [getN_push, if_pos (R.lt o' n' h)]; exact k2, k3.mono ext⟩
  · rw [getN_push] at h
    split at h
    · rcases R.sur n' r' h with ⟨o', k⟩ | k
      · exact .inl ⟨o', ext _ _ k⟩
      · exact .inr k
    · split at h
      · rename_i e; exact .inl ⟨o, by rw [renGet_cons, if_pos rfl, lenN_eq, e]⟩
      · cases h
  · rcases get o' n' h with ⟨_, rfl⟩ | h
    · exact .inr (Nat.le_refl _)
    · exact .inl h
theorem renRow_ok {old : List Root} {r r' : Ren} {n b : Nat} (R : RI old r) (h : renRow old n r = some (b, r')) : RI old r' ∧ RX r r' ∧ renGet r'.m n = some b := by
  unfold renRow at h
  split at h
  · rename_i b' hb; cases h; exact ⟨R, RX.refl _, hb⟩
  · rename_i hb
    split at h
    · rename_i s hs
      cases h
      exact R.add hb (rowOf_get hs) .rows
    · cases h
theorem renCell_ok {old : List Root} {r r' : Ren} {v w : AV} (R : RI old r) (h : renCell old v r = some (w, r')) : RI old r' ∧ RX r r' ∧ RV r'.m v w ∧ cellOk w = true := by
  unfold renCell at h
  split at h
  · split at h
    · rename_i b r1 h1; cases h
      obtain ⟨a, b, c⟩ := renRow_ok R h1
      exact ⟨a, b, .ref c, rfl⟩
    · cases h
  · split at h
    · rename_i b r1 h1; cases h
      obtain ⟨a, b, c⟩ := renRow_ok R h1
      exact ⟨a, b, .win c, rfl⟩
    · cases h
  · rename_i hn1 hn2
    obtain ⟨h1, h2⟩ := cn_some h
    cases h2
    refine ⟨R, RX.refl _, .same ?_, h1⟩
    cases v <;> simp_all [cellOk, refless]
theorem renCells_ok {old : List Root} : ∀ {vs ws : List AV} {r r' : Ren}, RI old r → renCells old vs r = some (ws, r') → RI old r' ∧ RX r r' ∧ CR r'.m vs ws ∧ ws.all cellOk = true
  | [], ws, r, r', R, h => by cases h; exact ⟨R, RX.refl _, .nil, rfl⟩
  | v :: l, ws, r, r', R, h => by
    simp only [renCells] at h
    split at h
    · rename_i w r1 h1
      split at h
      · rename_i ws' r2 h2
        cases h
        obtain ⟨a, b, c, d⟩ := renCell_ok R h1
        obtain ⟨e, f, g, i⟩ := renCells_ok a h2
        exact ⟨e, b.trans f, .cons (c.mono f.ext) g, by simp [d, i]⟩
      · cases h
    · cases h
theorem renBox_ok {old : List Root} {r r' : Ren} {n b : Nat} (R : RI old r) (hold : ∀ t vs, getN old n = some (.box t vs) → True) (h : renBox old n r = some (b, r')) : RI old r' ∧ RX r r' ∧ renGet r'.m n = some b := by
  unfold renBox at h
  split at h
  · rename_i b' hb; cases h; exact ⟨R, RX.refl _, hb⟩
  · rename_i hb
    split at h
    · rename_i t vs hv
      split at h
      · rename_i ws r1 h1
        cases h
        obtain ⟨a, c, d, e⟩ := renCells_ok R h1
        by_cases hn : renGet r1.m n = none
        · obtain ⟨x, y, z⟩ := a.add (r0 := .box t vs) (r1 := .box t ws) hn hv (.box (d.mono (fun o' n' h => by
            rw [renGet_cons]
            split
            · rename_i e'; subst e'; rw [hn] at h; cases h
            · exact h)) e)
          exact ⟨x, c.trans y, z⟩
        · -- a box is no cell's root
          exfalso
          have key : ∀ {vs ws : List AV} {r r' : Ren}, renCells old vs r = some (ws, r') → renGet r.m n = none → renGet r'.m n = none := by
            intro vs
            induction vs with
            | nil => intro ws r r' h hn; cases h; exact hn
            | cons v l ih =>
              intro ws r r' h hn
              simp only [renCells] at h
              split at h
              · rename_i w r1 h1
                split at h
                · rename_i ws' r2 h2
                  cases h
                  refine ih h2 ?_
                  have row : ∀ {m b : Nat} {r r' : Ren}, renRow old m r = some (b, r') → renGet r.m n = none → renGet r'.m n = none := by
                    intro m b r r' h hn
                    unfold renRow at h
                    split at h
                    · cases h; exact hn
                    · split at h
                      · rename_i s hs
                        cases h
                        rw [renGet_cons, if_neg]
                        · exact hn
                        · rintro rfl
                          have := rowOf_get hs
                          rw [hv] at this; cases this
                      · cases h
                  unfold renCell at h1
                  split at h1
                  · split at h1
                    · rename_i b r3 h3; cases h1; exact row h3 hn
                    · cases h1
                  · split at h1
                    · rename_i b r3 h3; cases h1; exact row h3 hn
                    · cases h1
                  · obtain ⟨_, h4⟩ := cn_some h1
                    cases h4; exact hn
                · cases h
              · cases h
          exact hn (key h1 hb)
      · cases h
    · cases h
theorem renV_ok {old : List Root} {r r' : Ren} {v w : AV} (R : RI old r) (h : renV old v r = some (w, r')) : RI old r' ∧ RX r r' ∧ RV r'.m v w := by
  unfold renV at h
  split at h
  · split at h
    · rename_i b r1 h1; cases h
      obtain ⟨a, b, c⟩ := renRow_ok R h1
      exact ⟨a, b, .ref c⟩
    · cases h
  · split at h
    · rename_i b r1 h1; cases h
      obtain ⟨a, b, c⟩ := renRow_ok R h1
      exact ⟨a, b, .win c⟩
    · cases h
  · split at h
    · rename_i b r1 h1; cases h
      obtain ⟨a, b, c⟩ := renRow_ok R h1
      exact ⟨a, b, .sub c⟩
    · cases h
  · split at h
    · split at h
      · rename_i b r1 h1; cases h
        obtain ⟨a, b, c⟩ := renRow_ok R h1
        exact ⟨a, b, .ptr c⟩
      · cases h
    · split at h
      · rename_i b r1 h1; cases h
        obtain ⟨a, b, c⟩ := renBox_ok R (fun _ _ _ => trivial) h1
        exact ⟨a, b, .ptr c⟩
      · cases h
  · obtain ⟨h1, h2⟩ := cn_some h
    cases h2
    exact ⟨R, RX.refl _, .same h1⟩
end Go.Proofs.YtlkbmcmglkdciaaE
