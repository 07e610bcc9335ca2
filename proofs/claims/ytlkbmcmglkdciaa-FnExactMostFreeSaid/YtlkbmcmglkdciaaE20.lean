/- Every operation that is no call. No condition. -/
import Derived.Test.YtlkbmcmglkdciaaE42
set_option linter.unusedVariables false
set_option linter.unusedSectionVars false
set_option linter.unusedSimpArgs false
namespace Go.Proofs.YtlkbmcmglkdciaaE
open Go Go.RowKit

section
variable {own0 : Own} {w0 W : World} {st : St} {a : Act} {w : World} {β : Bs} {col : Col} {P : Program} {o : Oper}

theorem pure_ok (S : Sat own0 w0 st a w β col) (hp : pureOp P o = true) {v : AV} {st' : St} (h : stepX P o st = some (true, v, st')) : DoesP P own0 w0 o a w β col st v st' := by
  unfold pureOp at hp
  cases ho : o.op with
  | move x => exact do_move S (.inl ho) h
  | assign x => exact do_move S (.inr ho) h
  | pick c x y => exact do_pick S ho h
  | build t ps => exact do_build S ho h
  | load t x => exact do_load S ho h
  | nilCheck x => exact do_nilCheck S ho h
  | binOp op t x y t' => exact do_bin S ho h
  | makeFunc f first cap => exact do_makeFunc S ho h
  | unOp op t x => exact do_un S ho h
  | convert s d x =>
    rw [ho] at hp
    simp only at hp
    split at hp
    · rename_i kd hk; exact do_convInt S ho hk h
    · cases hp
  | slice t x lo hi mx =>
    cases mx with
    | none => exact do_slice S ho h
    | some _ => unfold stepX at h; rw [ho] at h; cases h
  | fieldAddr t x f => exact do_fieldAddr S ho h
  | field t x f => exact do_field S ho h
  | indexAddr t x i => exact do_indexAddr S ho h
  | index t x i => exact do_index S ho h
  | extract x i => exact do_extract S ho h
  | call c =>
    obtain ⟨callee, args, tys⟩ := c
    rw [ho] at hp
    unfold stepX at h
    rw [ho] at h
    cases callee with
    | value f => cases h
    | invoke r m => cases h
    | builtin b =>
      simp only at h
      split at h
      · rename_i ha ht
        exact do_len S ho ha ht h
      · cases hp
      · cases hp
      · rename_i ha
        exact do_minmax S ho ha (.inl ⟨rfl, h⟩)
      · rename_i ha
        exact do_minmax S ho ha (.inr ⟨rfl, h⟩)
      · cases h
  | _ => first | (rw [ho] at hp; cases hp; done) | (unfold stepX at h; rw [ho] at h; cases h)
theorem step_ok (S : Sat own0 w0 st a w β col) {v : AV} {st' : St} (h : stepX P o st = some (true, v, st')) : Does P own0 w0 o a w β col st v st' := by
  cases ho : o.op with
  | move x => exact (do_move S (.inl ho) h).does S
  | assign x => exact (do_move S (.inr ho) h).does S
  | pick c x y => exact (do_pick S ho h).does S
  | alloc t => exact do_alloc S ho h
  | box t x => exact do_box S ho h
  | build t ps => exact (do_build S ho h).does S
  | buildSlice t n ps => exact do_lit S ho h
  | load t x => exact (do_load S ho h).does S
  | store t x y =>
    have h' := h
    unfold stepX at h'
    rw [ho] at h'
    simp only at h'
    split at h'
    · rename_i n i c j d u h1 h2
      exact do_storeN S ho h1 h2 h'
    · rename_i n i c m j d lo len h1 h2
      exact do_storeW S ho h1 h2 h'
    · rename_i p u _ _ h1 h2
      exact do_store S ho h1 h2 h'
    · cases h'
  | nilCheck x => exact (do_nilCheck S ho h).does S
  | binOp op t x y t' => exact (do_bin S ho h).does S
  | makeFunc f first cap => exact (do_makeFunc S ho h).does S
  | unOp op t x => exact (do_un S ho h).does S
  | convert s d x => exact do_conv S ho h
  | makeSlice t x y => exact do_make S ho h
  | slice t x lo hi mx =>
    cases mx with
    | none => exact (do_slice S ho h).does S
    | some _ => unfold stepX at h; rw [ho] at h; cases h
  | fieldAddr t x f => exact (do_fieldAddr S ho h).does S
  | field t x f => exact (do_field S ho h).does S
  | indexAddr t x i => exact (do_indexAddr S ho h).does S
  | index t x i => exact (do_index S ho h).does S
  | extract x i => exact (do_extract S ho h).does S
  | call c =>
    obtain ⟨callee, args, tys⟩ := c
    unfold stepX at h
    rw [ho] at h
    cases callee with
    | value f => cases h
    | invoke r m => cases h
    | builtin b =>
      simp only at h
      split at h
      · rename_i ha ht
        exact (do_len S ho ha ht h).does S
      · rename_i ha ht
        exact do_append S ho ha ht h
      · rename_i ha ht
        exact do_copy S ho ha ht h
      · rename_i ha
        exact (do_minmax S ho ha (.inl ⟨rfl, h⟩)).does S
      · rename_i ha
        exact (do_minmax S ho ha (.inr ⟨rfl, h⟩)).does S
      · cases h
  | _ => unfold stepX at h; rw [ho] at h; cases h
end
end Go.Proofs.YtlkbmcmglkdciaaE
