/- The contract of StateFrom. No condition. -/
import Derived.Test.YtcddcnnbhbffmaaSFf
set_option linter.unusedVariables false
namespace Go.Proofs.Ytcddcnnbhbffmaa
open Go.RowKit Go.Proofs.YtcddcnnbhbffmaaE
abbrev sfS : Sig := ⟨21, [], [.val], [.one (.row 9 .str)], [.one (.own 3 (.int .i64)), .one .bool], [], []⟩
/-- What the function tells. -/
noncomputable def sfF (l : List ByteArray) : Option (List Int × Bool) :=
  cn (!decide ((l.length : Int) = 2)) (some ([], false)) (gd (inb 0 l.length) (cn (!decide (((getAt ByteArray.empty l 0).size : Int) = 6)) (some ([], false)) (gd (inb 1 l.length) (cn (!decide (((getAt ByteArray.empty l 1).size : Int) = 6)) (some ([], false))
    (some ((List.range 6).map (sfVal (bytesL (getAt ByteArray.empty l 0 ++ getAt ByteArray.empty l 1))), true))))))
noncomputable def sfE (l : List ByteArray) : Option (List Int × Bool) :=
  cn (!decide ((l.length : Int) = 2)) (some ([], false)) (gd (inb 0 l.length) (cn (!decide (((getAt ByteArray.empty l 0).size : Int) = 6)) (some ([], false)) (gd (inb 1 l.length) (cn (!decide (((getAt ByteArray.empty l 1).size : Int) = 6)) (some ([], false))
    (gd (inb 0 l.length) (gd (inb 1 l.length) (gd (decide ((getAt ByteArray.empty l 0).size + (getAt ByteArray.empty l 1).size ≤ 140737488355328)) (gd (decide ((getAt ByteArray.empty l 0 ++ getAt ByteArray.empty l 1).size ≤ 70368744177664)) none))))))))
set_option maxRecDepth 100000 in
theorem sfE_run (l : List ByteArray) : sfE l = sfS.run Try.prog [] 0 l := by kernel_rfl
theorem sfE_ok : CtrOk Try.prog 21 (sfS.ctr sfE) := sig_ok sfS .nil (by kernel_rfl) sfE_run

theorem seg_cell {cs : Array Value} {i : Nat} {v : Value} (h : seg cs i 1 = [v]) : cs[i]? = some v := by
  have := congrArg (fun l => l[0]?) h
  simpa [seg_get] using this
theorem sf_ctr : CtrOk Try.prog 21 (sfS.ctr sfF) := by
  refine ⟨sfE_ok.1, fun ts d args w β col hd hv hroots hcol => ?_⟩
  have hd' : (getSs sfS.as ts).bind sfF = some d := hd
  cases hx : getSs sfS.as ts with
  | none => rw [hx] at hd'; cases hd'
  | some l =>
  rw [hx] at hd'
  have hts : ts = [.row 9 .str l] := (putSs_get hx).symm
  have hF : sfF l = some d := hd'
  by_cases hgood : sfE l = some d
  · exact sfE_ok.2 ts d args w β col (by show (getSs sfS.as ts).bind sfE = _; rw [hx]; exact hgood) hv hroots hcol
  · -- the good case
    have hg : ∃ a b, l = [a, b] ∧ a.size = 6 ∧ b.size = 6 ∧ d = ((List.range 6).map (sfVal (bytesL (a ++ b))), true) := by
      unfold sfF at hF
      unfold sfE at hgood
      cases h1 : decide ((l.length : Int) = 2) with
      | false => rw [h1] at hF hgood; exact absurd hF hgood
      | true =>
        have hl : l.length = 2 := by have := of_decide_eq_true h1; omega
        match l, hl with
        | [a, b], _ =>
          rw [h1] at hF hgood
          have e0 : inb 0 [a, b].length = true := rfl
          have e1 : inb 1 [a, b].length = true := rfl
          have g0 : getAt ByteArray.empty [a, b] 0 = a := rfl
          have g1 : getAt ByteArray.empty [a, b] 1 = b := rfl
          rw [e0, e1, g0, g1] at hF hgood
          cases h2 : decide ((a.size : Int) = 6) with
          | false => rw [h2] at hF hgood; exact absurd hF hgood
          | true =>
            rw [h2] at hF hgood
            cases h3 : decide ((b.size : Int) = 6) with
            | false => rw [h3] at hF hgood; exact absurd hF hgood
            | true =>
              rw [h3] at hF
              have := of_decide_eq_true h2
              have := of_decide_eq_true h3
              refine ⟨a, b, rfl, by omega, by omega, ?_⟩
              have hF : some ((List.range 6).map (sfVal (bytesL (a ++ b))), true) = some d := hF
              exact (Option.some.inj hF).symm
    obtain ⟨a, b, rfl, ha, hb, rfl⟩ := hg
    subst hts
    -- the argument
    match hargs : args.toList, hv with
    | [v], hv =>
      have hargs' : args = #[v] := by apply Array.ext'; exact hargs
      subst hargs'
      obtain ⟨A, c, he, hc, hr⟩ := hv.1
      cases he
      rcases hr with h | ⟨g, o, cs, e2, fz, rfl, hz, hw, hel⟩
      · cases h
      · have c0 := seg_cell (hel 0 (by show 0 < 2; omega))
        have c1 := seg_cell (hel 1 (by show 1 < 2; omega))
        have k0 : w.cell? ⟨g, o, none⟩ = some (.string a) := by simp [World.cell?, hw]; simpa using c0
        have k1 : w.cell? ⟨g, o + 1, none⟩ = some (.string b) := by
          have c1 : cs[o + 1 * 1]? = some (.string b) := c1
          simp [World.cell?, hw]; simpa using c1
        refine (callsIn_wide.1 (sf_in Fence.wide 5 trivial trivial trivial rfl (Nat.le_refl _) g o c e2 fz cs a b w hw k0 k1 ha hb)).mono fun e w' hp => ?_
        obtain ⟨v, rfl, ⟨gr, hsl, hge, cs', fz', q1, q2, q3, q4, q5⟩, hbel⟩ := hp
        have hne : ∀ k, k < w.heap.size → k ≠ gr.g := fun k hk e => by omega
        refine ⟨_, fun n => if n = 1 then some gr else β n, fun k => if k = gr.g then some (1, true) else if k < w.heap.size then col k else none, rfl, ?_, rfl, ?_⟩
        · refine ⟨fun n r hn => ?_, ⟨hbel.os, hbel.tape, hbel.output, hbel.size, fun k hk _ => hbel.block k hk⟩, fun k hk => ?_, rfl, fun k hk hc => ?_, fun n bb r h => ?_⟩
          · match n, hn with
            | 0, hn => cases hn; trivial
            | 1, hn =>
              cases hn
              refine ⟨cs', fz', if_pos rfl, q1, q2, q3, by show gr.o + ((List.range 6).map _).length * 1 ≤ _; simpa using q4, fun i hi => ?_, .inl rfl⟩
              have hi' : i < 6 := by simpa using hi
              show seg cs' (gr.o + i * 1) 1 = _
              rw [Nat.mul_one, q5 i hi']
              simp
            | n + 2, hn => cases n <;> cases hn
          · by_cases hk' : k = gr.g
            · subst hk'; exact ⟨.inr (.inl hge), (Array.getElem?_eq_some_iff.1 q1).1⟩
            · simp only [if_neg hk'] at hk ⊢
              by_cases hlt : k < w.heap.size
              · rw [if_pos hlt] at hk ⊢
                refine ⟨?_, Nat.lt_of_lt_of_le hlt hbel.size⟩
                show (∃ x, col k = some (0, x)) ∨ _ ∨ (match col k with | none => 0 | some (0, _) => 2 | some (_ + 1, _) => 1) = 1
                cases hck : col k with
                | none => exact absurd hck hk
                | some p =>
                  obtain ⟨m, y⟩ := p
                  cases m with
                  | zero => exact .inl ⟨y, rfl⟩
                  | succ m => exact .inr (.inr rfl)
              · rw [if_neg hlt] at hk; exact absurd rfl hk
          · have hc : (if k = gr.g then some (1, true) else if k < w.heap.size then col k else none) = none := hc
            rw [if_neg (hne k hk), if_pos hk] at hc
            show (match col k with | none => 0 | some (0, _) => 2 | some (_ + 1, _) => 1) = 0
            rw [hc]
          · have h : (if n < 1 then (getN [Root.dead] n).map fun r => (β n, r) else none) = some (bb, r) := h
            split at h
            · rename_i hn
              have : n = 0 := by omega
              subst this
              cases h
              exact ⟨by show 0 < 1; omega, rfl, .dead, rfl, trivial⟩
            · cases h
        · exact ⟨_, rfl, ⟨_, rfl, by show slAt (some gr) 1 0 ((List.range 6).map _).length v; simpa using hsl⟩, rfl, trivial⟩
end Go.Proofs.Ytcddcnnbhbffmaa
