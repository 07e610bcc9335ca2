/- Regions whose order is drawn. Comes between E23 and E24. No condition. -/
import Derived.Test.YtlkbmcmglkdciaaE23
set_option linter.unusedVariables false
set_option linter.unusedSectionVars false
set_option linter.unusedSimpArgs false
namespace Go.Proofs.YtlkbmcmglkdciaaE
open Go Go.RowKit

section
variable {P : Program} {ops : Array Oper} {Q : Exit → Act → World → Prop}

/-- Whatever order is picked from here on, and a step that may not write leaves what was there. -/
def wpAnyL (P : Program) (ops : Array Oper) (wr : Option Nat → Nat → Bool) (Q : Exit → Act → World → Prop) : Nat → Array Bool → Act → World → Prop
  | 0, listed, a, w => Region.ready .any ops listed = [] ∧ Q .normal a w
  | fuel + 1, listed, a, w =>
    (Region.ready .any ops listed = [] → Q .normal a w) ∧
    ∀ i ∈ Region.ready .any ops listed, wpOp P ops Q i (fun a' w' => (∀ q, wr q i = false → BelowQ q w w') ∧ wpAnyL P ops wr Q fuel (listed.setIfInBounds i true) a' w') a w
variable {wr : Option Nat → Nat → Bool}
theorem wpAny_of_L : ∀ (fuel : Nat) (listed : Array Bool) (a : Act) (w : World), wpAnyL P ops wr Q fuel listed a w → wpAny P .any ops Q fuel listed a w
  | 0, _, _, _, h => h
  | fuel + 1, _, _, _, h => ⟨h.1, fun i hi => wpOp_mono (fun a' w' h' => wpAny_of_L fuel _ a' w' h'.2) (h.2 i hi)⟩

def Closed (ops : Array Oper) (listed : Array Bool) : Prop := ∀ (l : Nat) (o : Oper), listed.getD l false = true → ops[l]? = some o → ∀ e ∈ o.after, Region.binds .any e = true → listed.getD e.on false = true
theorem binds_eq (e : Edge) : Region.binds .any e = bindsA e := by
  unfold Region.binds bindsA
  cases e.ground <;> rfl
theorem getD_both {listed : Array Bool} {i : Nat} (h : listed.getD i true = false) : listed.getD i false = false := by
  rcases Nat.lt_or_ge i listed.size with h' | h'
  · simp [h'] at h ⊢; exact h
  · simp [Array.getElem?_eq_none h']
theorem waits_ok {listed : Array Bool} (hc : Closed ops listed) {i : Nat} (hi : listed.getD i true = false) : ∀ (n j : Nat) (o : Oper), waitsB ops.toList n j i = true → ops[j]? = some o →
    (∀ e ∈ o.after, Region.binds .any e = true → listed.getD e.on false = true) → False
  | 0, j, o, h, _, _ => by cases h
  | n + 1, j, o, h, ho, hall => by
    unfold waitsB at h
    rw [getN_eq, Array.getElem?_toList, ho] at h
    simp only [List.any_eq_true, Bool.and_eq_true, Bool.or_eq_true] at h
    obtain ⟨e, he, hb, h⟩ := h
    have he' := hall e (by simpa using he) (by rw [binds_eq]; exact hb)
    rcases h with h | h
    · have := Nat.eq_of_beq_eq_true h
      subst this
      rw [getD_both hi] at he'; cases he'
    · have ho2 : ∃ o2, ops[e.on]? = some o2 := by
        cases n with
        | zero => cases h
        | succ n =>
          unfold waitsB at h
          rw [getN_eq, Array.getElem?_toList] at h
          cases hx : ops[e.on]? with
          | none => rw [hx] at h; cases h
          | some o2 => exact ⟨o2, rfl⟩
      obtain ⟨o2, ho2⟩ := ho2
      exact waits_ok hc hi n e.on o2 h ho2 (hc _ _ he' ho2)
theorem closed_set {listed : Array Bool} (hc : Closed ops listed) {i : Nat} {oi : Oper} (hi : ops[i]? = some oi) (hall : ∀ e ∈ oi.after, Region.binds .any e = true → listed.getD e.on false = true) :
    Closed ops (listed.setIfInBounds i true) := by
  intro l o hl ho e he hb
  refine getD_set_true ?_
  by_cases hli : i = l
  · subst hli
    rw [hi] at ho; cases ho
    exact hall e he hb
  · rw [getD_set_ne false hli] at hl
    exact hc l o hl ho e he hb

theorem wpAnyL_first {q : Option Nat} {i : Nat} {oi : Oper} {v : Value} (hi : ops[i]? = some oi) (hsel : ∀ (j : Nat) (o : Oper) cs b, ops[j]? = some o → o.op ≠ .select cs b)
    (hQ : ∀ c a w, Q (.panic c) (a.put oi.dst v) w → Q (.panic c) a w) :
    ∀ (fuel : Nat) (listed : Array Bool) (a : Act) (w : World), Closed ops listed →
      (∀ j oj, ops[j]? = some oj → j ≠ i → listed.getD j true = false → (∀ e ∈ oj.after, Region.binds .any e = true → e.on ≠ i) → oi.apart ops oj = true) →
      (∀ j oj, ops[j]? = some oj → j ≠ i → listed.getD j true = false → wr q j = true → ∃ n, waitsB ops.toList n j i = true) →
      i ∈ Region.ready .any ops listed → YieldsIf P ops (BelowQ q w) oi v a →
      wpAnyL P ops wr Q fuel (listed.setIfInBounds i true) (a.put oi.dst v) w → wpAnyL P ops wr Q (fuel + 1) listed a w := by
  intro fuel
  induction fuel with
  | zero =>
    intro listed a w hcl _ _ hr hy H
    refine ⟨fun h => (by rw [h] at hr; cases hr), fun j hj => ?_⟩
    by_cases hji : j = i
    · subst hji; exact hy.wpOp hi (BelowQ.refl q _) ⟨fun q _ => BelowQ.refl q _, H⟩
    · have := ready_mono hj hji
      rw [H.1] at this
      cases this
  | succ fuel ih =>
    intro listed a w hcl hfree hwr hr hy H
    refine ⟨fun h => (by rw [h] at hr; cases hr), fun j hj => ?_⟩
    by_cases hji : j = i
    · subst hji; exact hy.wpOp hi (BelowQ.refl q _) ⟨fun q _ => BelowQ.refl q _, H⟩
    · have h1 := H.2 j (ready_mono hj hji)
      obtain ⟨hjun, oj, hoj, hall⟩ := mem_ready.1 hj
      have hiun := (mem_ready.1 hr).1
      have hnot : ∀ e ∈ oj.after, Region.binds .any e = true → e.on ≠ i := fun e he hb heq => by
        have h1 := hall e he hb
        rw [heq, getD_both hiun] at h1; cases h1
      have hwj : wr q j = false := by
        cases hx : wr q j with
        | false => rfl
        | true =>
          obtain ⟨n, hn⟩ := hwr j oj hoj hji hjun hx
          exact (waits_ok hcl hiun n j oj hn hoj hall).elim
      have h2 := wpOp_putIf hoj (hfree j oj hoj hji hjun hnot) (fun cs b => hsel i oi cs b hi) (fun cs b => hsel j oj cs b hoj) hQ hy h1
      have un : ∀ k, k ≠ j → (listed.setIfInBounds j true).getD k true = false → listed.getD k true = false := fun k hk h => by
        rwa [getD_set_ne true (Ne.symm hk)] at h
      have unj : ∀ k, (listed.setIfInBounds j true).getD k true = false → listed.getD k true = false := fun k h => by
        by_cases hjk : k = j
        · subst hjk; exact hjun
        · exact un k hjk h
      refine wpOp_mono (fun a' w' h3 => ⟨h3.2.1, ?_⟩) h2
      obtain ⟨hy', hb, H'⟩ := h3
      have hB := hb q hwj
      refine ih (listed.setIfInBounds j true) a' w' (closed_set hcl hoj hall) (fun k ok hk hki hun hno => hfree k ok hk hki (unj k hun) hno) (fun k ok hk hki hun hw => hwr k ok hk hki (unj k hun) hw) (ready_mono hr (Ne.symm hji)) ?_ ?_
      · refine hy'.imp (fun ⟨h1, h2⟩ => ⟨h1, fun w2 hw2 => h2 w2 (hB.trans hw2)⟩) id
      · rw [Array.setIfInBounds_comm _ _ hji]
        exact H'
end

/-! ### The executor's own lists -/
structure ND (ops : Array Oper) (listed : Array Bool) (done : List Nat) : Prop where
  size : listed.size = ops.size
  get : ∀ i, i < ops.size → listed[i]? = some (!notIn i done)
  lt : ∀ i ∈ done, i < ops.size
theorem notIn_iff {n : Nat} : ∀ {l : List Nat}, notIn n l = false ↔ n ∈ l
  | [] => by simp [notIn]
  | m :: l => by
    simp only [notIn]
    cases h : Nat.beq m n with
    | true => simp [cn, Nat.eq_of_beq_eq_true h]
    | false =>
      have : m ≠ n := fun e => by subst e; simp at h
      simp [cn, notIn_iff (l := l), Ne.symm this]
section
variable {ops : Array Oper} {listed : Array Bool} {done : List Nat}
theorem ND.getD (N : ND ops listed done) (i : Nat) (d : Bool) : listed.getD i d = if i < ops.size then !notIn i done else d := by
  rw [Array.getD_eq_getD_getElem?]
  split
  · rename_i h; rw [N.get i h]; rfl
  · rename_i h; rw [Array.getElem?_eq_none (by rw [N.size]; omega)]; rfl
theorem ND.ready (N : ND ops listed done) {i : Nat} {o : Oper} (ho : ops[i]? = some o) : i ∈ Region.ready .any ops listed ↔ readyB done i o = true := by
  have hlt := (Array.getElem?_eq_some_iff.1 ho).1
  rw [mem_ready, N.getD, if_pos hlt]
  unfold readyB
  simp only [Bool.and_eq_true, List.all_eq_true, Bool.or_eq_true, Bool.not_eq_true', Bool.not_eq_false']
  constructor
  · rintro ⟨h1, o', ho', h2⟩
    rw [ho] at ho'; cases ho'
    refine ⟨h1, fun e he => ?_⟩
    cases hb : bindsA e with
    | false => exact .inl rfl
    | true =>
      have := h2 e (by simpa using he) (by rw [binds_eq]; exact hb)
      rw [N.getD] at this
      split at this
      · exact .inr (by simpa using this)
      · cases this
  · rintro ⟨h1, h2⟩
    refine ⟨h1, o, ho, fun e he hb => ?_⟩
    rw [binds_eq] at hb
    rcases h2 e (by simpa using he) with h | h
    · rw [hb] at h; cases h
    · rw [N.getD, if_pos (N.lt _ (notIn_iff.1 h)), h]; rfl
theorem readyL_mem : ∀ {l : List Oper} {k j : Nat}, j ∈ readyL done k l ↔ ∃ i o, j = k + i ∧ l[i]? = some o ∧ readyB done j o = true
  | [], k, j => by simp [readyL]
  | o :: l, k, j => by
    have ih := readyL_mem (l := l) (k := k + 1) (j := j)
    have tail : (∃ i o', j = k + i ∧ (o :: l)[i]? = some o' ∧ readyB done j o' = true) ↔ (j = k ∧ readyB done k o = true) ∨ ∃ i o', j = k + 1 + i ∧ l[i]? = some o' ∧ readyB done j o' = true := by
      constructor
      · rintro ⟨i, o', h1, h2, h3⟩
        cases i with
        | zero => simp at h2; subst h2; subst h1; exact .inl ⟨rfl, h3⟩
        | succ i => exact .inr ⟨i, o', by omega, by simpa using h2, h3⟩
      · rintro (⟨h1, h2⟩ | ⟨i, o', h1, h2, h3⟩)
        · subst h1; exact ⟨0, o, rfl, rfl, h2⟩
        · exact ⟨i + 1, o', by omega, by simpa using h2, h3⟩
    rw [tail]
    simp only [readyL]
    cases h : readyB done k o with
    | true => simp only [cn, List.mem_cons, ih, and_true]
    | false => simp only [cn, ih]; simp
theorem ND.readyL (N : ND ops listed done) (i : Nat) : i ∈ Region.ready .any ops listed ↔ i ∈ readyL done 0 ops.toList := by
  rw [readyL_mem]
  constructor
  · intro h
    obtain ⟨_, o, ho, _⟩ := mem_ready.1 h
    exact ⟨i, o, by omega, by rw [Array.getElem?_toList]; exact ho, (N.ready ho).1 h⟩
  · rintro ⟨i', o, rfl, ho, hb⟩
    rw [Array.getElem?_toList] at ho
    rw [Nat.zero_add] at hb ⊢
    exact (N.ready ho).2 hb
theorem ND.set (N : ND ops listed done) {i : Nat} (hi : i < ops.size) : ND ops (listed.setIfInBounds i true) (i :: done) := by
  refine ⟨by simp [N.size], fun j hj => ?_, fun j hj => ?_⟩
  · rw [Array.getElem?_setIfInBounds]
    split
    · rename_i e; subst e
      rw [if_pos (by rw [N.size]; exact hi)]
      simp [notIn, cn]
    · rename_i e
      rw [N.get j hj]
      have : Nat.beq i j = false := by cases h : Nat.beq i j with | false => rfl | true => exact absurd (Nat.eq_of_beq_eq_true h) e
      simp [notIn, cn, this]
  · rcases List.mem_cons.1 hj with rfl | hj
    · exact hi
    · exact N.lt j hj
end
end Go.Proofs.YtlkbmcmglkdciaaE
