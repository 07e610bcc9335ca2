/- Stores, literals, conversions, lengths. No condition. -/
import Derived.Test.YtgnijlfakjjfcaaGreatE13
set_option linter.unusedVariables false
set_option linter.unusedSectionVars false
set_option linter.unusedSimpArgs false
namespace Go.Proofs.YtgnijlfakjjfcaaGreatE
open Go Go.RowKit

section
variable {own0 : Own} {w0 : World} {st : St} {a : Act} {w : World} {β : Bs} {col : Col} {P : Program} {o : Oper}

theorem do_store (S : Sat own0 w0 st a w β col) {t : Nat} {x y : Operand} (ho : o.op = .store t x y) {p u v : AV} {st' : St} (h1 : ev st x = some p) (h2 : ev st y = some u) (h : stStore P t p u st = some (true, v, st')) :
    Does P own0 w0 o a w β col st v st' := by
  · unfold stStore at h
    split at h
    · cases h
    · rename_i u' hre
      obtain ⟨h3, h4⟩ := cn_some h
      simp only [Bool.and_eq_true] at h3
      have hlen := Nat.eq_of_beq_eq_true h3.1
      have hpos := Nat.le_of_ble_eq_true h3.2.1
      rw [lenN_eq] at hlen hpos
      have hx := ev_ok S h1
      have hv := retype_ok (ev_ok S h2) hre
      split at h4
      · rename_i n i c
        split at h4
        · rename_i bt ws hr
          obtain ⟨h5, h6⟩ := cn_some h4
          obtain ⟨_, rfl, rfl⟩ := ok1_eq h6
          have h5 := Nat.le_of_ble_eq_true h5
          rw [lenN_eq, lenN_eq] at h5
          exact do_storeBox S ho hx hv h3.2.2 hlen hpos hr h5
        · rename_i e k xs hr
          split at h4
          · rename_i z ms hd
            obtain ⟨h5, h6⟩ := cn_some h4
            simp only [Bool.and_eq_true] at h5
            obtain ⟨_, rfl, rfl⟩ := ok1_eq h6
            have h7 := Nat.le_of_ble_eq_true h5.1
            rw [lenN_eq] at h7
            exact do_storeRow S ho hx hv h3.2.2 hlen hpos hr h7 (notIn_ok h5.2.1) (nodupN_ok h5.2.2) hd
          · cases h4
        · cases h4
      · cases h4

/-! ### Lengths -/
theorem readSl_len (S : Sat own0 w0 st a w β col) {x : AV} {s : Sl} {vx : Value} (hx : vrel st.heap β col w x vx) (h : readSl st.heap x = some s) : ∃ A c, vx = .slice A s.xs.length c ∧ s.xs.length ≤ c := by
  cases x <;> simp only [readSl] at h <;> first | (cases h; done) | skip
  · cases h; obtain rfl : vx = _ := hx; exact ⟨none, 0, rfl, Nat.le_refl _⟩
  · cases h; obtain ⟨A, c, hA, hc, _⟩ := hx; cases hA; exact ⟨A, c, rfl, hc⟩
  · rename_i n
    obtain ⟨s', hs', A, c, rfl, hc, _⟩ := hx
    rw [rowOf_get hs'] at h
    cases h
    exact ⟨A, c, rfl, hc⟩
  · rename_i n lo len
    obtain ⟨s', hs', hl, A, c, rfl, hc, _⟩ := hx
    rw [rowOf_get hs'] at h
    cases h
    have : ((s'.xs.drop lo).take len).length = len := by simp; omega
    exact ⟨A, c, by rw [this], by rw [this]; exact hc⟩
  · obtain ⟨A, q, h1, h2, _⟩ := sub_read S hx (by simp only [readSl]; exact h)
    exact ⟨A, q, h1, h2⟩
theorem lenOf_ok (S : Sat own0 w0 st a w β col) {x : AV} {n : Nat} {vx : Value} (hx : vrel st.heap β col w x vx) (h : lenOf st.heap x = some n) : ∃ A c, vx = .slice A n c := by
  unfold lenOf at h
  split at h
  · cases h
    obtain ⟨s', hs', hl, A, c, rfl, hc, _⟩ := hx
    exact ⟨A, c, rfl⟩
  · split at h
    · rename_i s hs
      cases h
      obtain ⟨A, c, h1, _⟩ := readSl_len S hx hs
      exact ⟨A, c, h1⟩
    · cases h

theorem run_builtin {b : Builtin} {args : Array Operand} {ts : Array Nat} {P : Program} {s : Sem Value} {r : Value} {w w' : World} (ho : o.op = .call { callee := .builtin b, args := args, argTypes := ts })
    (hb : Go.builtin b ts o.type (args.map fun | .const _ => true | _ => false) (args.map a.eval) = (do pure (Next.value (← s)))) (hr : s.run P w = .ok r w') : (execOp a.eval o).run P w = .ok (.value r) w' := by
  have : execOp a.eval o = Go.builtin b ts o.type (args.map fun | .const _ => true | _ => false) (args.map a.eval) := by
    unfold execOp
    rw [ho]
    rfl
  rw [this, hb]
  exact run_value hr
end
end Go.Proofs.YtgnijlfakjjfcaaGreatE
