/- The contract of strings.Repeat, for the executor. No condition. -/
import Derived.Test.YtgnijlfakjjfcaaGreatE36
import Derived.Test.YtgnijlfakjjfcaaGreatShelf
set_option linter.unusedVariables false
namespace Go.Proofs.YtgnijlfakjjfcaaGreat
open Go Go.RowKit Go.Proofs.YtgnijlfakjjfcaaGreatE
abbrev repS : Sig := ⟨80, [], [.val, .val], [.one .str, .one (.int .i64)], [.one .str], [], []⟩
/-- So many copies. -/
noncomputable def repF (s : ByteArray) (n : Int) : Option ByteArray := gd (decide (0 ≤ n ∧ n ≤ 1000000 ∧ s.size ≤ 1000000)) (some ⟨(Lib.repeatL s.data.toList n.toNat).toArray⟩)
theorem rep_run (s : ByteArray) (n : Int) (d : ByteArray) (args : Array Value) (w : World) (β : Bs) (col : Col) (hF : repF s n = some d)
    (hv : vrels (heapC [.val, .val] [.str s, .int .i64 n]) β col w [.str s, .int .i64 n] args.toList) (hcol : ∀ g, col g ≠ none → g < w.heap.size) :
    Calls Tryz.prog 80 args w fun e w' => ∃ v β' col', e = .returned v ∧ Mem (ownOf [.dead] 1 β col) w [.dead] 1 β' col' w' ∧ v = .string d := by
  unfold repF at hF
  cases hc : decide (0 ≤ n ∧ n ≤ 1000000 ∧ s.size ≤ 1000000) with
  | false => rw [hc] at hF; cases hF
  | true =>
  rw [hc] at hF
  have hF : some (⟨(Lib.repeatL s.data.toList n.toNat).toArray⟩ : ByteArray) = some d := hF
  cases hF
  have hcc := of_decide_eq_true hc
  have h0 : (0 : Int) ≤ n := hcc.1
  have h1 : n ≤ 1000000 := hcc.2.1
  have h2 : s.size ≤ 1000000 := hcc.2.2
  clear hcc
  match hargs : args.toList, hv with
  | [v1, v2], hv =>
    have hargs' : args = #[v1, v2] := by apply Array.ext'; exact hargs
    subst hargs'
    obtain rfl : v1 = .string s := hv.1
    obtain rfl : v2 = .int .i64 n := hv.2.1
    obtain ⟨c, hcn⟩ : ∃ c : Nat, n = (c : Int) := ⟨n.toNat, by omega⟩
    have hc1 : c ≤ 1000000 := by omega
    subst hcn
    have hmul : s.size * c ≤ 1000000 * 1000000 := Nat.mul_le_mul h2 hc1
    refine (Tryz.strings_Repeat s c w (by omega) (by omega)).mono fun e w' hp => ?_
    obtain ⟨rfl, hbel⟩ := hp
    refine ⟨_, β, col, rfl, ?_, ?_⟩
    · refine ⟨fun n r hn => ?_, ⟨hbel.os, hbel.tape, hbel.output, hbel.size, fun k hk _ => hbel.block k hk⟩, fun k hk => ?_, rfl, fun k hk hc => ?_, fun n bb r h => ?_⟩
      · match n, hn with
        | 0, hn => cases hn; trivial
        | n + 1, hn => cases n <;> cases hn
      · refine ⟨?_, Nat.lt_of_lt_of_le (hcol k hk) hbel.size⟩
        show (∃ x, col k = some (0, x)) ∨ _ ∨ (match col k with | none => 0 | some (0, _) => 2 | some (_ + 1, _) => 1) = 1
        cases hck : col k with
        | none => exact absurd hck hk
        | some p =>
          obtain ⟨m, y⟩ := p
          cases m with
          | zero => exact .inl ⟨y, rfl⟩
          | succ m => exact .inr (.inr rfl)
      · show (match col k with | none => 0 | some (0, _) => 2 | some (_ + 1, _) => 1) = 0
        rw [hc]
      · have h : (if n < 1 then (getN [Root.dead] n).map fun r => (β n, r) else none) = some (bb, r) := h
        split at h
        · rename_i hn
          have : n = 0 := by omega
          subst this
          cases h
          exact ⟨by show 0 < 1; omega, rfl, .dead, rfl, trivial⟩
        · cases h
    · simp [Int.toNat_natCast]
theorem rep_ctr : CtrOk Tryz.prog 80 (repS.ctr fun x => repF x.1 x.2) := by
  refine ⟨⟨Tryz.f80, Tryz.func80, fun h => absurd (show Tryz.f80.name = "strings.Repeat" from rfl) (by rw [h]; decide), by kernel_rfl⟩, fun ts d args w β col hd hv hroots hcol => ?_⟩
  have hd' : (getSs repS.as ts).bind (fun x => repF x.1 x.2) = some d := hd
  cases hx : getSs repS.as ts with
  | none => rw [hx] at hd'; cases hd'
  | some p =>
  rw [hx] at hd'
  have hts : ts = [.str p.1, .int .i64 p.2] := (putSs_get hx).symm
  subst hts
  refine (rep_run p.1 p.2 d args w β col hd' hv hcol).mono fun e w' hp => ?_
  obtain ⟨v, β', col', h1, h2, h3⟩ := hp
  exact ⟨v, β', col', h1, h2, rfl, h3⟩
end Go.Proofs.YtgnijlfakjjfcaaGreat
