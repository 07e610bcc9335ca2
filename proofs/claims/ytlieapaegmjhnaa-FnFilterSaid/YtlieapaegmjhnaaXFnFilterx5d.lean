-- Written by xprint.py of this session: out of the translation, by the kit's print with contracts of this session.
import Derived.Test.YtlieapaegmjhnaaXFnFilterx0
import Derived.Test.YtlieapaegmjhnaaXFnFilterx1
import Derived.Test.YtlieapaegmjhnaaXFnFilterx2
import Derived.Test.YtlieapaegmjhnaaXFnFilterx3
import Derived.Test.YtlieapaegmjhnaaXFnFilterx4
namespace Go.Proofs.Ytlieapaegmjhnaa.XFnFilter
open Go.RowKit Go.Proofs.YtlieapaegmjhnaaW.PrintWords Go.Proofs.YtlieapaegmjhnaaW.PrintLast Go.Proofs.YtlieapaegmjhnaaW.PrintMore
open Go.Proofs.Ytlieapaegmjhnaa.Min0
attribute [local go_sem] max2_int min2_int max_two min_two max_three min_three max_four min_four   -- for this text's walks alone
set_option linter.unusedVariables false
set_option linter.unusedSimpArgs false

/-! ### laws_FnFilter: function 7 -/
def laws_FnFilter.l0 : Nat → List Int → List Int → Int → Int → List Bool → Option (Bool)
 | 0, _, _, _, _, _ => none
 | k + 1, x1, x77, x78, x79, x327000 => if x79 < x78 then (if 0 ≤ x79 then (if x79 < (x77.length : Int) then ((impl_MayHave.f k x327000 (rd x77 x79)).bind fun bt337 => (if bt337.2 = true then (if bt337.1 = true then (laws_FnFilter.l0 k x1 x77 x78 (wrap64 (x79 + 1)) x327000) else (none)) else (none))) else (none)) else (none)) else ((spec_DrawPutFilter.f k x1).bind fun bt339 => ((impl_PutFilter.f k bt339.1 bt339.2).bind fun bt344 => ((spec_PutFilter.f k bt339.1 bt339.2).bind fun bt349 => ((impl_MayHave.f k bt339.1 bt339.2).bind fun bt354 => ((spec_MayHave.f k bt339.1 bt339.2).bind fun bt356 => (if (bt344.2 != bt349.2) = true then (none) else ((laws_sameBools.f k bt344.1 bt349.1).bind fun t358 => (if t358 = true then (if (bt354.2 != bt356.2) = true then (none) else (if (bt354.1 != bt356.1) = true then (none) else ((impl_GoodFilter.f bt339.1).bind fun t359 => ((spec_GoodFilter.f bt339.1).bind fun t360 => (if (t359 != t360) = true then (none) else (if bt344.2 = true then ((impl_MayHave.f k bt344.1 bt339.2).bind fun bt361 => (if bt361.2 = true then (if bt361.1 = true then ((laws_sameBools.f k bt344.1 bt339.1).bind fun t363 => (some (bt354.1 == t363))) else (none)) else (none))) else (some true))))))) else (none)))))))))
def laws_FnFilter.f (k : Nat) (l0 : List Int) (l1 : List Int) : Option (Bool) := if (wrap64 ((l0.length : Int) + (l1.length : Int))) > 1048576 then (some true) else ((spec_DrawFilterOf.f k l0).bind fun t319 => ((impl_FilterOf.f k t319).bind fun bt322 => ((spec_FilterOf.f k t319).bind fun bt327 => (if (bt322.2 != bt327.2) = true then (none) else ((laws_sameBools.f k bt322.1 bt327.1).bind fun t332 => (if t332 = true then (if bt322.2 = true then ((impl_OnesIn.f k bt322.1).bind fun bt333 => ((impl_GoodFilter.f bt322.1).bind fun t335 => (if t335 = true then (if bt333.2 = true then (if bt333.1 > (wrap64 (3 * (t319.length : Int))) then (none) else (laws_FnFilter.l0 k l1 t319 (t319.length : Int) 0 bt322.1)) else (none)) else (none)))) else ((spec_DrawPutFilter.f k l1).bind fun bt364 => ((impl_PutFilter.f k bt364.1 bt364.2).bind fun bt369 => ((spec_PutFilter.f k bt364.1 bt364.2).bind fun bt374 => ((impl_MayHave.f k bt364.1 bt364.2).bind fun bt379 => ((spec_MayHave.f k bt364.1 bt364.2).bind fun bt381 => (if (bt369.2 != bt374.2) = true then (none) else ((laws_sameBools.f k bt369.1 bt374.1).bind fun t383 => (if t383 = true then (if (bt379.2 != bt381.2) = true then (none) else (if (bt379.1 != bt381.1) = true then (none) else ((impl_GoodFilter.f bt364.1).bind fun t384 => ((spec_GoodFilter.f bt364.1).bind fun t385 => (if (t384 != t385) = true then (none) else (if bt369.2 = true then ((impl_MayHave.f k bt369.1 bt364.2).bind fun bt386 => (if bt386.2 = true then (if bt386.1 = true then ((laws_sameBools.f k bt369.1 bt364.1).bind fun t388 => (some (bt379.1 == t388))) else (none)) else (none))) else (some true))))))) else (none)))))))))) else (none)))))))
theorem laws_FnFilter.mono_l : ∀ k, (∀ y0 y1 y2 y3 y4, LeO (laws_FnFilter.l0 k y0 y1 y2 y3 y4) (laws_FnFilter.l0 (k + 1) y0 y1 y2 y3 y4))
 | 0 => fun _ _ _ _ _ r h => by simp [laws_FnFilter.l0] at h
 | k + 1 => by
  have ih0 := laws_FnFilter.mono_l k
  ·intro y0 y1 y2 y3 y4
   unfold laws_FnFilter.l0
   repeat' first
   | (with_reducible exact ih0 _ _ _ _ _)
   | (with_reducible exact impl_FilterOf.mono _ _)
   | (with_reducible exact impl_MayHave.mono _ _ _)
   | (with_reducible exact impl_OnesIn.mono _ _)
   | (with_reducible exact impl_PutFilter.mono _ _ _)
   | (with_reducible exact laws_sameBools.mono _ _ _)
   | (with_reducible exact spec_DrawFilterOf.mono _ _)
   | (with_reducible exact spec_DrawPutFilter.mono _ _)
   | (with_reducible exact spec_FilterOf.mono _ _)
   | (with_reducible exact spec_MayHave.mono _ _ _)
   | (with_reducible exact spec_PutFilter.mono _ _ _)
   | (with_reducible exact LeO.refl _)
   | (with_reducible exact LeO.none _)
   | (with_reducible refine LeO.ite ?_ ?_)
   | (with_reducible refine LeO.bind ?_ (fun _ => ?_))
   | exact ih0 _ _ _ _ _
   | exact impl_FilterOf.mono _ _
   | exact impl_MayHave.mono _ _ _
   | exact impl_OnesIn.mono _ _
   | exact impl_PutFilter.mono _ _ _
   | exact laws_sameBools.mono _ _ _
   | exact spec_DrawFilterOf.mono _ _
   | exact spec_DrawPutFilter.mono _ _
   | exact spec_FilterOf.mono _ _
   | exact spec_MayHave.mono _ _ _
   | exact spec_PutFilter.mono _ _ _
   | exact LeO.none _
   | refine LeO.ite ?_ ?_
   | refine LeO.bind ?_ (fun _ => ?_)
theorem laws_FnFilter.mono : ∀ a0 a1 k, LeO (laws_FnFilter.f k a0 a1) (laws_FnFilter.f (k + 1) a0 a1) := by
 intro a0 a1 k
 have ih0 := laws_FnFilter.mono_l k
 unfold laws_FnFilter.f
 repeat' first
   | (with_reducible exact ih0 _ _ _ _ _)
   | (with_reducible exact impl_FilterOf.mono _ _)
   | (with_reducible exact impl_MayHave.mono _ _ _)
   | (with_reducible exact impl_OnesIn.mono _ _)
   | (with_reducible exact impl_PutFilter.mono _ _ _)
   | (with_reducible exact laws_sameBools.mono _ _ _)
   | (with_reducible exact spec_DrawFilterOf.mono _ _)
   | (with_reducible exact spec_DrawPutFilter.mono _ _)
   | (with_reducible exact spec_FilterOf.mono _ _)
   | (with_reducible exact spec_MayHave.mono _ _ _)
   | (with_reducible exact spec_PutFilter.mono _ _ _)
   | (with_reducible exact LeO.refl _)
   | (with_reducible exact LeO.none _)
   | (with_reducible refine LeO.ite ?_ ?_)
   | (with_reducible refine LeO.bind ?_ (fun _ => ?_))
   | exact ih0 _ _ _ _ _
   | exact impl_FilterOf.mono _ _
   | exact impl_MayHave.mono _ _ _
   | exact impl_OnesIn.mono _ _
   | exact impl_PutFilter.mono _ _ _
   | exact laws_sameBools.mono _ _ _
   | exact spec_DrawFilterOf.mono _ _
   | exact spec_DrawPutFilter.mono _ _
   | exact spec_FilterOf.mono _ _
   | exact spec_MayHave.mono _ _ _
   | exact spec_PutFilter.mono _ _ _
   | exact LeO.none _
   | refine LeO.ite ?_ ?_
   | refine LeO.bind ?_ (fun _ => ?_)
def laws_FnFilter.T24 : Bool × List (List Nat × List Nat) := (true, [([], []), ([], []), ([0, 1], [0, 1]), ([2], [2]), ([3], [3]), ([4, 3], [3, 4]), ([3], [3]), ([6, 3], [3, 6]), ([5, 7, 3, 3], [3, 5, 7]), ([8, 3], [3, 8]), ([3, 9], [3, 9]), ([10, 8], [10]), ([11], [11]), ([11], [11]), ([12, 13, 11], [11, 12, 13]), ([11, 14], [11, 14]), ([15, 11], [15]), ([16], [16]), ([16], [16]), ([17, 18, 16], [16, 17, 18]), ([16, 19], [16, 19]), ([20, 16], [20]), ([21], [21]), ([22, 21, 21], [21, 22]), ([21], [21]), ([24, 23, 21], [21, 24]), ([23, 25, 21], [21, 23, 25]), ([21, 26], [21, 26])])
def laws_FnFilter.B24 : List Nat := [0, 0, 3, 7, 15, 31, 15, 79, 255, 511, 1023, 2047, 4095, 4095, 16383, 32767, 65535, 131071, 131071, 524287, 1048575, 2097151, 4194303, 8388607, 4194303, 33554431, 67108863, 134217727]
theorem laws_FnFilter.tab24 : rtab .any (opsOf Try.f7 24) = laws_FnFilter.T24 := by kernel_rfl
theorem laws_FnFilter.bits24 : waitsOk laws_FnFilter.T24.2 laws_FnFilter.B24 = true := by kernel_rfl
end Go.Proofs.Ytlieapaegmjhnaa.XFnFilter
