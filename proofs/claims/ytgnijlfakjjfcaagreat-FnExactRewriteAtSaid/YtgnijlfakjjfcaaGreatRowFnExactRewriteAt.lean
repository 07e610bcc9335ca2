/- The row of FnExactRewriteAt: whatever the arguments that can be read, the law answers true and the arguments read as they did. No condition. Written by a program of this session out of the law's contract. -/
import Derived.Test.YtgnijlfakjjfcaaGreatRows
import Derived.Test.YtgnijlfakjjfcaaGreatFRW
import Derived.Test.YtgnijlfakjjfcaaGreatPureFnExactRewriteAt
import Derived.WalkKit
import Derived.ProofKit
import Derived.OpenShut
import Derived.ShutString
import Derived.ChangeOld
import Derived.Below
import Derived.SizedLaws
namespace Go.Proofs.YtgnijlfakjjfcaaGreat.fnExactRewriteAt
open Go.ChangeShapes Go.WideShapes Go.ChangeAt Go.RowKit Go.Proofs.YtgnijlfakjjfcaaGreatE Go.Proofs.YtgnijlfakjjfcaaGreat
open Go.ChangeMaps (open_string shut_string)
set_option linter.unusedVariables false
theorem own : ownKnob Tryz.prog.godebug = none := by kernel_rfl
theorem laidOut : laidOutB Tryz.prog = true := by kernel_rfl
set_option maxRecDepth 100000 in
theorem lifted (os : Os) (started : os.Started) (H : Type) (enc : TypeId × Value → H) :
    ReturnsInHanded {} Tryz.checked os 5 .any (Rows.fnExactRewriteAtSpec.pre6 enc Tryz.prog Tryz.f5 Rows.fnExactRewriteAtRow.domain false) (Rows.fnExactRewriteAtSpec.post enc Tryz.prog Tryz.f5 false true false false) := by
  refine returnsInHanded_of_change_sized (C := Tryz.checked) own started (by kernel_rfl) Tryz.func5
    (ChangeSpec.witness6 (enc := enc) (C := Tryz.checked) false ⟨#[], #[.agg #[.slice none 0 0, .slice none 0 0, .slice none 0 0, .slice none 0 0, .int .i64 0, .int .i64 0], .int .i64 0, .string ByteArray.empty], []⟩ 8 (by kernel_rfl) (by kernel_rfl) (by kernel_rfl) (by kernel_rfl)) ?_
  intro W base args ds gs before hval0 hW hcnd hsz0 _
  have hval : ∀ (j : Nat) t v, Tryz.f5.params[j]? = some t → args[j]? = some v → Value.okWide Tryz.prog W .any base t v := hval0
  have hW' := hW
  obtain ⟨p, q, hA0, hV, rfl, hfz, hnd⟩ := hW
  have hA : DataW.TrodAll enc Tryz.prog W 0 (fun _ => true) true Tryz.f5.params.toList args.toList ds p := hA0
  rw [Tryz.params5] at hA hval
  obtain ⟨v0, vs0, d0, ds0, p0, q0, hargs, rfl, rfl, h0, r0⟩ := trodAll_cons hA
  obtain ⟨v1, vs1, d1, ds1, p1, q1, rfl, rfl, rfl, h1, r1⟩ := trodAll_cons r0
  obtain ⟨v2, vs2, d2, ds2, p2, q2, rfl, rfl, rfl, h2, r2⟩ := trodAll_cons r1
  obtain ⟨rfl, rfl, rfl⟩ := trodAll_nil r2
  obtain rfl : args = #[v0, v1, v2] := by cases args; simp_all
  obtain ⟨rfl, rfl⟩ := trodVars_none hV
  have k0 := h0
  have lt0 : ∀ x ∈ p0, x.block < W.heap.size := by obtain ⟨m, hm⟩ := k0; exact DataW.trod_lt m _ _ _ hm
  obtain ⟨cs0, rfl, _⟩ := okWide_struct Tryz.underlying47 (hval 0 47 v0 rfl rfl)
  obtain ⟨x0, r0', o0⟩ : ∃ x : Kind.den (.pair (.pair (.sl 9 .str) (.pair (.sl 9 .str) (.sl 4 .bool))) (.pair (.sl 3 (.int .i64)) (.pair (.int .i64) (.int .i64)))), rep W (fun _ => True) (.pair (.pair (.sl 9 .str) (.pair (.sl 9 .str) (.sl 4 .bool))) (.pair (.sl 3 (.int .i64)) (.pair (.int .i64) (.int .i64)))) x (cs0.toList) ∧ okK (.pair (.pair (.sl 9 .str) (.pair (.sl 9 .str) (.sl 4 .bool))) (.pair (.sl 3 (.int .i64)) (.pair (.int .i64) (.int .i64)))) x := by
    obtain ⟨fuel, hf⟩ := k0
    exact trod_rep 8 hf (by kernel_rfl) (by kernel_rfl)
  have k1 := h1
  have lt1 : ∀ x ∈ p1, x.block < W.heap.size := by obtain ⟨m, hm⟩ := k1; exact DataW.trod_lt m _ _ _ hm
  obtain ⟨sv1, rfl⟩ := okWide_int Tryz.underlying3 (hval 1 3 v1 rfl rfl)
  obtain ⟨x1, r1', o1⟩ : ∃ x : Kind.den (.int .i64), rep W (fun _ => True) (.int .i64) x ([.int .i64 sv1]) ∧ okK (.int .i64) x := by
    obtain ⟨fuel, hf⟩ := k1
    exact trod_rep 8 hf (by kernel_rfl) (by kernel_rfl)
  have k2 := h2
  have lt2 : ∀ x ∈ p2, x.block < W.heap.size := by obtain ⟨m, hm⟩ := k2; exact DataW.trod_lt m _ _ _ hm
  obtain ⟨sv2, rfl⟩ := okWide_string Tryz.underlying9 (hval 2 9 v2 rfl rfl)
  obtain ⟨x2, r2', o2⟩ : ∃ x : Kind.den .str, rep W (fun _ => True) .str x ([.string sv2]) ∧ okK .str x := by
    obtain ⟨fuel, hf⟩ := k2
    exact trod_rep 8 hf (by kernel_rfl) (by kernel_rfl)
  clear hA0 hval0 hsz0
  obtain ⟨K, hK⟩ := lawRewriteAt x0.1.1 x0.1.2.1 x0.1.2.2 x0.2.1 x0.2.2.1 x0.2.2.2 x1 x2 o0.1.1 o0.1.2.1 o0.1.2.2 o0.2.1 o0.2.2.1 o0.2.2.2 o1 o2
  refine (law_calls (w_FnExactRewriteAt.ok K) rfl (ts := [.agg (cellsS (.pair (.pair (.sl 9 .str) (.pair (.sl 9 .str) (.sl 4 .bool))) (.pair (.sl 3 (.int .i64)) (.pair (.int .i64) (.int .i64)))) x0), .int .i64 x1, .str x2]) ⟨rfl, rfl⟩ (d := true) (b := true) ?_ rfl rfl ?_).mono ?_
  · refine Eq.trans ?_ (hK K (Nat.le_refl _))
    kernel_rfl
  · exact ⟨⟨_, rfl, rep_cellsS (fun g => rfl) r0'⟩, (List.cons.inj (show [_] = [_] from r1')).1, (List.cons.inj (show [_] = [_] from r2')).1, trivial⟩
  rintro e W' ⟨rfl, bel⟩
  exact ⟨_, rfl, _, _, _, [], _, [], hW', trodAll_mk1 (shut_bool Tryz.underlying4 _), (trodAll_cons_mk (Below.trod laidOut (by kernel_rfl) (of_decide_eq_true (by kernel_rfl)) k0 bel lt0) (trodAll_cons_mk (Below.trod laidOut (by kernel_rfl) (of_decide_eq_true (by kernel_rfl)) k1 bel lt1) (trodAll_cons_mk (Below.trod laidOut (by kernel_rfl) (of_decide_eq_true (by kernel_rfl)) k2 bel lt2) trodAll_mk0))), rfl, bel.frame _, fun h => by cases h⟩
theorem over : Rows.fnExactRewriteAtRow.holds Tryz.pinned (OpenSpec.ofChange Rows.fnExactRewriteAtSpec) :=
  OpenClaim.holds_of_wide 5 Tryz.f5 rfl rfl rfl rfl rfl rfl rfl ⟨rfl, rfl, rfl, rfl, rfl⟩ rfl rfl rfl rfl rfl (by kernel_rfl) Tryz.func5 (by kernel_rfl)
    (of_decide_eq_true (by kernel_rfl)) (by unfold Func.isWrapper; first | (rw [if_pos (by decide +kernel)]; kernel_rfl) | (rw [if_neg (by decide +kernel)]; exact ⟨rfl, rfl⟩))
    (fun os started H enc _ => lifted os started H enc)
theorem proved : Rows.FnExactRewriteAtSaid := over
#print axioms proved
end Go.Proofs.YtgnijlfakjjfcaaGreat.fnExactRewriteAt
namespace Go.Proofs.YtgnijlfakjjfcaaGreat
/-- The row, under a short name, for the claim. -/
theorem fnExactRewriteAt_holds : Rows.FnExactRewriteAtSaid := fnExactRewriteAt.proved
end Go.Proofs.YtgnijlfakjjfcaaGreat
