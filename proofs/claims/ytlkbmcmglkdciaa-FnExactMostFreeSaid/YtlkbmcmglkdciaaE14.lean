/- Stores, literals, conversions, lengths. No condition. -/
import Derived.Test.YtlkbmcmglkdciaaEH
set_option linter.unusedVariables false
set_option linter.unusedSectionVars false
set_option linter.unusedSimpArgs false
namespace Go.Proofs.YtlkbmcmglkdciaaE
open Go Go.RowKit

section
variable {own0 : Own} {w0 : World} {st : St} {a : Act} {w : World} {β : Bs} {col : Col} {P : Program} {o : Oper}

theorem do_store (S : Sat own0 w0 st a w β col) {t : Nat} {x y : Operand} (ho : o.op = .store t x y) {p u v : AV} {st' : St} (h1 : ev st x = some p) (h2 : ev st y = some u) (h : stStore P t p u st = some (true, v, st')) :
    Does P own0 w0 o a w β col st v st' := by
  · unfold stStore at h
    split at h
    · cases h
    · rename_i u' hre
      obtain ⟨h3, h4⟩ := cn_some h
      simp only [Bool.and_eq_true] at h3
      have hlen := Nat.eq_of_beq_eq_true h3.1
      have hpos := Nat.le_of_ble_eq_true h3.2.1
      rw [lenN_eq] at hlen hpos
      have hx := ev_ok S h1
      have hv := retype_ok (ev_ok S h2) hre
      split at h4
      · rename_i n i c
        split at h4
        · rename_i bt ws hr
          obtain ⟨h5, h6⟩ := cn_some h4
          obtain ⟨_, rfl, rfl⟩ := ok1_eq h6
          have h5 := Nat.le_of_ble_eq_true h5
          rw [lenN_eq, lenN_eq] at h5
          exact do_storeBox S ho hx hv h3.2.2 hlen hpos hr h5
        · rename_i e k xs hr
          split at h4
          · rename_i z ms hd
            obtain ⟨h5, h6⟩ := cn_some h4
            simp only [Bool.and_eq_true] at h5
            obtain ⟨_, rfl, rfl⟩ := ok1_eq h6
            have h7 := Nat.le_of_ble_eq_true h5.1
            rw [lenN_eq] at h7
            exact do_storeRow S ho hx hv h3.2.2 hlen hpos hr h7 (notIn_ok h5.2.1) (nodupN_ok h5.2.2) hd
          · cases h4
        · rename_i e k xs j hr
          obtain ⟨h5, h6⟩ := cn_some h4
          simp only [Bool.and_eq_true] at h5
          have hc0 := Nat.eq_of_beq_eq_true h5.1
          have hij := Nat.eq_of_beq_eq_true h5.2
          subst hc0; subst hij
          refine do_fill S ho hx hv ?_ hr h6
          unfold stFill at h6
          split at h6
          · rename_i m s hm hs
            rw [← hlen]
            cases u' <;> first | rfl | (cases hm; done)
          · cases h6
        · cases h4
      · cases h4

/-! ### Lengths -/
theorem readSl_len (S : Sat own0 w0 st a w β col) {x : AV} {s : Sl} {vx : Value} (hx : vrel st.heap β col w x vx) (h : readSl st.heap x = some s) : ∃ A c, vx = .slice A s.xs.length c ∧ s.xs.length ≤ c := by
  cases x <;> simp only [readSl] at h <;> first | (cases h; done) | skip
  · cases h; obtain rfl : vx = _ := hx; exact ⟨none, 0, rfl, Nat.le_refl _⟩
  · cases h; obtain ⟨A, c, hA, hc, _⟩ := hx; cases hA; exact ⟨A, c, rfl, hc⟩
  · rename_i n
    split at h
    · rename_i e k xs hr
      cases h
      obtain ⟨A, c, rfl, hc, _⟩ := ref_row hx (rowOf_of hr)
      exact ⟨A, c, rfl, hc⟩
    · cases h
  · rename_i n lo len
    split at h
    · rename_i e k xs hr
      cases h
      obtain ⟨hl, A, c, rfl, hc, _⟩ := win_row hx (rowOf_of hr)
      have : ((xs.drop lo).take len).length = len := by simp at hl; simp; omega
      exact ⟨A, c, by rw [this], by rw [this]; exact hc⟩
    · cases h
  · obtain ⟨A, q, h1, h2, _⟩ := sub_read S hx (by simp only [readSl]; exact h)
    exact ⟨A, q, h1, h2⟩
  · obtain ⟨s0, b, cs, fz, e', k', ys, A, q, A2, k1, k2, k3, k4, k5, k6, k7, k8, rfl, k9⟩ := hx
    rw [rowOf_get k1] at h
    simp only [k5, Option.some.injEq] at h
    subst h
    rename_i lo len
    have : ((ys.drop lo).take len).length = len := by simp; omega
    exact ⟨A2, q - lo, by rw [this], by rw [this]; omega⟩
theorem lenOf_ok (S : Sat own0 w0 st a w β col) {x : AV} {n : Nat} {vx : Value} (hx : vrel st.heap β col w x vx) (h : lenOf st.heap x = some n) : ∃ A c, vx = .slice A n c := by
  unfold lenOf at h
  split at h
  · cases h
    obtain ⟨r, h1, h0, hl, A, c, rfl, hc, _⟩ := hx
    exact ⟨A, c, rfl⟩
  · cases h
    obtain ⟨s0, b, cs, fz, e', k', ys, A, q, A2, k1, k2, k3, k4, k5, k6, k7, k8, rfl, k9⟩ := hx
    exact ⟨_, _, rfl⟩
  · split at h
    · rename_i s hs
      cases h
      obtain ⟨A, c, h1, _⟩ := readSl_len S hx hs
      exact ⟨A, c, h1⟩
    · cases h

theorem run_builtin {b : Builtin} {args : Array Operand} {ts : Array Nat} {P : Program} {s : Sem Value} {r : Value} {w w' : World} (ho : o.op = .call { callee := .builtin b, args := args, argTypes := ts })
    (hb : Go.builtin b ts o.type (args.map fun | .const _ => true | _ => false) (args.map a.eval) = (do pure (Next.value (← s)))) (hr : s.run P w = .ok r w') : (execOp a.eval o).run P w = .ok (.value r) w' := by
  have : execOp a.eval o = Go.builtin b ts o.type (args.map fun | .const _ => true | _ => false) (args.map a.eval) := by
    unfold execOp
    rw [ho]
    rfl
  rw [this, hb]
  exact run_value hr
end
end Go.Proofs.YtlkbmcmglkdciaaE
