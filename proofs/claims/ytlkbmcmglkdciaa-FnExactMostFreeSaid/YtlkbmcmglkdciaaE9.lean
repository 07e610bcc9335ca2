/- Operations that make rows: make, conversions; roots forgotten. No condition. -/
import Derived.Test.YtlkbmcmglkdciaaE8
set_option linter.unusedVariables false
set_option linter.unusedSectionVars false
set_option linter.unusedSimpArgs false
namespace Go.Proofs.YtlkbmcmglkdciaaE
open Go Go.RowKit

theorem zmatch_blk : ∀ {l : List AV} {vs : List Value}, zmatch l vs = true → ∀ v ∈ vs, blk v = none
  | [], [], _ => by simp
  | [], _ :: _, hm => by simp [zmatch] at hm
  | a :: _, [], hm => by cases a <;> simp [zmatch] at hm
  | a :: l, v :: vs, hm => by
    have key : zmatch l vs = true ∧ blk v = none := by
      unfold zmatch at hm
      split at hm
      · rename_i e1 e2; cases e1
      all_goals first
        | (rename_i e1 e2; cases e1; cases e2; refine ⟨?_, rfl⟩; first | exact hm | (simp only [Bool.and_eq_true] at hm; exact hm.2))
        | cases hm
    intro x hx
    rcases List.mem_cons.1 hx with rfl | hx
    · exact key.2
    · exact zmatch_blk key.1 x hx
theorem inK_none {w : World} {Z : Nat → Prop} : ∀ {k : Kind} {vs : List Value}, (∀ v ∈ vs, ∀ A l c, v = .slice A l c → c = 0) → inK w Z k vs
  | .int _, _, _ => trivial
  | .bool, _, _ => trivial
  | .str, _, _ => trivial
  | .pair a b, _, h => ⟨inK_none fun v hv => h v (List.mem_of_mem_take hv), inK_none fun v hv => h v (List.mem_of_mem_drop hv)⟩
  | .sl _ _, _, h => fun v hv => by
    unfold capP
    split
    · exact .inl (h _ hv _ _ _ rfl)
    · trivial
theorem zmatch_cap : ∀ {l : List AV} {vs : List Value}, zmatch l vs = true → ∀ v ∈ vs, ∀ A l c, v = .slice A l c → c = 0
  | [], [], _ => by simp
  | [], _ :: _, hm => by simp [zmatch] at hm
  | a :: _, [], hm => by cases a <;> simp [zmatch] at hm
  | a :: l, v :: vs, hm => by
    have key : zmatch l vs = true ∧ ∀ A l c, v = .slice A l c → c = 0 := by
      unfold zmatch at hm
      split at hm
      · rename_i e1 e2; cases e1
      all_goals first
        | (rename_i e1 e2; cases e1; cases e2; refine ⟨?_, fun A l c h => by cases h <;> rfl⟩; first | exact hm | (simp only [Bool.and_eq_true] at hm; exact hm.2))
        | cases hm
    intro x hx
    rcases List.mem_cons.1 hx with rfl | hx
    · exact key.2
    · exact zmatch_cap key.1 x hx
theorem inK_zero {w : World} {Z : Nat → Prop} {k : Kind} {l : List AV} {vs : List Value} (h : zmatch l vs = true) : inK w Z k vs := inK_none (zmatch_cap h)
theorem askRoom_ok {n : Nat} (h : n ≤ 2 ^ 47) : askRoom n = pure () := by
  unfold askRoom; rw [if_neg (by unfold roomBytes; omega)]
theorem wrap64_id {n : Int} (h0 : 0 ≤ n) (h1 : n ≤ 2 ^ 46) : IntKind.i64.wrap n = n := by
  have : n % (2 ^ 64 : Int) = n := Int.emod_eq_of_lt h0 (by omega)
  unfold IntKind.wrap
  simp only [IntKind.bits, IntKind.signed, this]
  simp
  omega

section
variable {own0 : Own} {w0 : World} {st : St} {a : Act} {w : World} {β : Bs} {col : Col} {P : Program} {o : Oper}

theorem seg_made {zero : Array Value} {len i : Nat} (hz : 0 < zero.size) (hi : i < len) :
    seg ((Array.range (len * zero.size)).map (zero[· % zero.size]!)) (i * zero.size) zero.size = zero.toList := by
  apply List.ext_getElem?
  intro j
  by_cases hj : j < zero.size
  · rw [seg_get hj]
    have h1 : i * zero.size + j < len * zero.size := by
      have : (i + 1) * zero.size ≤ len * zero.size := Nat.mul_le_mul_right _ hi
      rw [Nat.add_mul] at this; omega
    have h2 : (i * zero.size + j) % zero.size = j := by rw [Nat.add_comm, Nat.add_mul_mod_self_right, Nat.mod_eq_of_lt hj]
    simp [h1, h2, hj]
  · rw [List.getElem?_eq_none (by rw [seg_len]; omega; simp; have : (i + 1) * zero.size ≤ len * zero.size := Nat.mul_le_mul_right _ hi; rw [Nat.add_mul] at this; omega), List.getElem?_eq_none (by simp; omega)]

theorem bytes_info {P : Program} {e : Nat} {i : TypeInfo} (h : P.info? e = some i) : P.bytesOf e = i.bytes := by simp [Program.bytesOf, h]

theorem do_make (S : Sat own0 w0 st a w β col) {t : Nat} {x y : Operand} (ho : o.op = .makeSlice t x y) {v : AV} {st' : St} (h : stepX P o st = some (true, v, st')) :
    Does P own0 w0 o a w β col st v st' := by
  unfold stepX at h
  rw [ho] at h
  simp only at h
  unfold stMake at h
  split at h
  · rename_i e k hs
    obtain ⟨hu, hsz⟩ := slT_ok hs
    split at h
    · rename_i k' zs n m hz hx hy
      split at h
      · rename_i hk _
        obtain ⟨hk⟩ := hk
        subst hk
        simp only [Option.some.injEq, Prod.mk.injEq] at h
        obtain ⟨hc, rfl, rfl⟩ := h
        simp only [mkOk, Bool.and_eq_true, decide_eq_true_eq] at hc
        obtain ⟨h0, rfl, h1, h2⟩ := hc
        obtain ⟨rfl, i, z, i1, i2, i3, i4, i5⟩ := zeroT_ok hz
        have hb := bytes_info i1
        have hpos := sz_pos k'
        have hev1 : a.eval x = .int .i64 n := ev_ok S hx
        have hev2 : a.eval y = .int .i64 n := ev_ok S hy
        have hwr := wrap64_id h0 (by omega)
        let cs : Array Value := (Array.range (n.toNat * z.cells.size)).map (z.cells[· % z.cells.size]!)
        have hcs : cs.size = n.toNat * k'.sz := by simp [cs, i5]
        have hg := World.with_grew w (.cells cs e)
        obtain ⟨β', col', S', hk, hv⟩ := S.pushRow (e := e) (k := k') (xs := List.replicate n.toNat k'.dflt) (cs := cs) hg (fun j _ h => by simp at h) (by simp [hcs])
          (fun col' _ j hj => by
            simp only [List.length_replicate] at hj
            rw [List.getElem_replicate]
            have := seg_made (zero := z.cells) (len := n.toNat) (i := j) (by omega) hj
            rw [i5] at this
            show rep _ _ _ _ (seg cs (j * k'.sz) k'.sz)
            simp only [cs, i5]
            rw [this]
            exact rep_zero i3)
          (fun col' _ => .inr ⟨by
            have : (seg cs 0 ((List.replicate n.toNat k'.dflt).length * k'.sz)).filterMap blk = [] := by
              rw [List.filterMap_eq_nil_iff]
              intro v hv
              have hv' : v ∈ cs.toList := List.mem_of_mem_drop (List.mem_of_mem_take hv)
              simp only [cs, Array.toList_map, List.mem_map] at hv'
              obtain ⟨q, _, rfl⟩ := hv'
              have hq : q % z.cells.size < z.cells.size := Nat.mod_lt _ (by omega)
              rw [getElem!_pos z.cells _ hq]
              exact zmatch_blk i3 _ (by simp)
            rw [this]; exact List.nodup_nil, fun j hj => by
            simp only [List.length_replicate] at hj
            have := seg_made (zero := z.cells) (len := n.toNat) (i := j) (by omega) hj
            rw [i5] at this
            rw [Nat.zero_add]
            simp only [cs, i5]
            rw [this]
            exact inK_zero i3⟩)
        refine ⟨_, _, β', col', .inl ?_, S', hv n.toNat (by simp) (by rw [hcs]; exact Nat.le_refl _), fun q _ => BelowQ.of hg.below q⟩
        unfold execOp
        rw [ho]
        refine run_value (s := Instr.makeSlice t (a.eval x) (a.eval y)) ?_
        unfold Instr.makeSlice
        rw [run_und hu, hev1, hev2]
        simp only [asInt, asIntOf, pure_bind, bind_assoc]
        have hti : (typeInfo e).run P w = .ok i w := by simp [typeInfo, program, Sem.run, i1, bind, Sem.bind, pure]
        rw [run_then hti]
        simp only [hwr]
        have hnl : ¬ ((i.bytes : Int) * n > 2 ^ 48) := by
          have : (i.bytes : Int) * n = ((n.toNat * i.bytes : Nat) : Int) := by
            rw [Int.natCast_mul, Int.toNat_of_nonneg h0, Int.mul_comm]
          rw [this]; rw [hb] at h2; omega
        rw [if_neg (by simp; omega)]
        rw [askRoom_ok (by rw [hb] at h2; omega)]
        simp only [pure_bind]
        rw [run_size (by omega)]
        have e1 : n.toNat * P.cellsOf e = n.toNat * z.cells.size := by rw [hsz, i5]
        rw [e1]
        have hnat : n.toNat = (List.replicate n.toNat k'.dflt).length := by simp
        by_cases hn0 : n.toNat * z.cells.size = 0
        · rw [if_pos hn0]
          have : ((Array.range (n.toNat * z.cells.size)).map fun x => (#[] : Array Value)[x % (#[] : Array Value).size]!) = cs := by
            apply Array.ext
            · simp [cs]
            · intro j hj1 hj2; simp at hj1; omega
          rw [this, run_then (run_newRow w)]
          rw [← hnat]; rfl
        · rw [if_neg hn0]
          rw [run_then (run_zero i1 i2 w)]
          rw [run_then (run_newRow w)]
          rw [← hnat]; rfl
      · cases h
    · cases h
  · cases h
end
end Go.Proofs.YtlkbmcmglkdciaaE
