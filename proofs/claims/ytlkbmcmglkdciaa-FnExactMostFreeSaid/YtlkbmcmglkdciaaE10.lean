/- Roots that are forgotten; what a literal's and an append's elements are made of. No condition. -/
import Derived.Test.YtlkbmcmglkdciaaE9
set_option linter.unusedVariables false
set_option linter.unusedSectionVars false
set_option linter.unusedSimpArgs false
namespace Go.Proofs.YtlkbmcmglkdciaaE
open Go Go.RowKit

section
variable {h h' : List Root} {β β' : Bs} {col col' : Col} {w w' : World}
/-- What a value that does not see root m names. -/
theorem sees1_not {m : Nat} {p q : Nat → Prop} {v : AV} {x : Value} (hv : vrel h β col w v x) (hs : sees1 m v = false) 
    (hp : ∀ n r, n ≠ m → getN h n = some r → r ≠ .dead → p n) (hq : ∀ n s, n ≠ m → rowsOf h n = some s → q n) : sees p q v := by
  have ne : ∀ {n : Nat}, Nat.beq n m = false → n ≠ m := fun {n} hb e => by subst e; simp at hb
  cases v <;> simp only [sees1] at hs <;> (try trivial) <;> (try (cases hs; done))
  · obtain ⟨s, h1, h0, _⟩ := hv; exact hp _ _ (ne hs) h1 (nd_of_sz h0)
  · obtain ⟨s, h1, h0, _⟩ := hv; exact hp _ _ (ne hs) h1 (nd_of_sz h0)
  · obtain ⟨s, b, cs, fz, h1, _⟩ := hv; exact hq _ _ (ne hs) h1
  · obtain ⟨r, b, h1, h2, h3, h4⟩ := hv; exact hp _ _ (ne hs) h1 (by rintro rfl; simp [rlen] at h4)
  · obtain ⟨s, b, cs, fz, e', k', ys, g', o', q', h1, _⟩ := hv; exact hq _ _ (ne hs) h1
  · obtain ⟨s, b, cs, fz, e', k', ys, A, q', A', h1, _⟩ := hv; exact hq _ _ (ne hs) h1
theorem sees_not {m : Nat} {p q : Nat → Prop} {v : AV} {x : Value} (hv : vrel h β col w v x) (hs : seesN m v = false) 
    (hp : ∀ n r, n ≠ m → getN h n = some r → r ≠ .dead → p n) (hq : ∀ n s, n ≠ m → rowsOf h n = some s → q n) : sees p q v := by
  have all : ∀ {l : List AV} {vs : List Value}, vrels h β col w l vs → l.any (sees1 m) = false → seesL p q l := by
    intro l
    induction l with
    | nil => intro vs _ _; trivial
    | cons a l ih =>
      intro vs hv hs
      cases vs with
      | nil => exact hv.elim
      | cons y vs =>
        rw [List.any_cons, Bool.or_eq_false_iff] at hs
        exact ⟨sees1_not hv.1 hs.1 hp hq, ih hv.2 hs.2⟩
  cases v
  case agg vs => obtain ⟨cs, _, h1⟩ := hv; exact all h1 hs
  case tup vs => obtain ⟨cs, _, h1⟩ := hv; exact all h1 hs
  case clo f vs => obtain ⟨cs, _, h1⟩ := hv; exact all h1 hs
  all_goals exact sees1_not hv hs hp hq
theorem lk_forget (m : Nat) : ∀ (l : List (Nat × AV)) (t : Nat), lk (forgetE m l) t = forget m (lk l t)
  | [], t => by simp [lk, forgetE, forget, seesN, sees1, cn]
  | (u, v) :: l, t => by
    simp only [forgetE, lk, lk_forget m l]
    cases Nat.beq u t <;> simp [cn]
theorem forget_or (m : Nat) (v : AV) : forget m v = .undef ∨ (forget m v = v ∧ seesN m v = false) := by
  unfold forget
  cases h : seesN m v
  · exact .inr ⟨rfl, rfl⟩
  · exact .inl rfl
theorem getN_forget (m : Nat) : ∀ (l : List Root) (n : Nat), getN (forgetH m l) n = (getN l n).map fun r => match r with | .box t vs => .box t (forgetL m vs) | r => r
  | [], n => by simp [getN, forgetH]
  | r :: l, 0 => by cases r <;> simp [getN, forgetH]
  | r :: l, n + 1 => by cases r <;> simp [getN, forgetH, getN_forget m l n]
theorem forgetH_len (m : Nat) : ∀ l : List Root, (forgetH m l).length = l.length
  | [] => rfl
  | r :: l => by cases r <;> simp [forgetH, forgetH_len m l]
theorem forgetL_len (m : Nat) : ∀ l : List AV, (forgetL m l).length = l.length
  | [] => rfl
  | r :: l => by simp [forgetL, forgetL_len m l]
theorem forgetL_ok (m : Nat) (keep : ∀ c v, c.cells = c.cells → vrel h β col w c v → seesN m c = false → vrel h' β' col' w' c v) : ∀ {l : List AV} {vs : List Value}, vrels h β col w l vs → vrels h' β' col' w' (forgetL m l) vs
  | [], [], _ => trivial
  | [], _ :: _, hv => hv.elim
  | _ :: _, [], hv => hv.elim
  | a :: l, v :: vs, hv => by
    refine ⟨?_, forgetL_ok m keep hv.2⟩
    rcases forget_or m a with h1 | ⟨h1, h2⟩
    · rw [h1]; trivial
    · rw [h1]; exact keep a v rfl hv.1 h2
theorem forgetL_cell (m : Nat) : ∀ {l : List AV}, l.all cellOk = true → (forgetL m l).all cellOk = true
  | [], _ => rfl
  | a :: l, hc => by
    simp only [forgetL, List.all_cons, Bool.and_eq_true] at hc ⊢
    refine ⟨?_, forgetL_cell m hc.2⟩
    rcases forget_or m a with h1 | ⟨h1, h2⟩
    · rw [h1]; rfl
    · rw [h1]; exact hc.1
theorem getN_set {A : Type} (l : List A) (n : Nat) (x : A) (m : Nat) : getN (setN l n x) m = if m = n then (if n < l.length then some x else none) else getN l m := by
  simp only [getN_eq, setN_eq, List.getElem?_set]
  by_cases e : n = m
  · subst e; simp
  · rw [if_neg e, if_neg (fun h => e h.symm)]
theorem setN_len {A : Type} (l : List A) (n : Nat) (x : A) : (setN l n x).length = l.length := by simp [setN_eq]
end

section
variable {own0 : Own} {w0 : World} {st : St} {a : Act} {w : World} {β : Bs} {col : Col} {P : Program} {o : Oper}

/-- How roots stand behind a forgetting of m, where m itself becomes r1 (or is dead). -/
theorem forget_same {m : Nat} {r1 : Root} {n : Nat} (hn : n ≠ m) {s : Sl} (hs : rowsOf st.heap n = some s) : Same st.heap (setN (forgetH m st.heap) m r1) β β col col w w n :=
  ⟨by rw [getN_set, if_neg hn, getN_forget, rowOf_get hs]; rfl, rfl, fun g o _ hx => ⟨rfl, hx⟩⟩
theorem forget_weak {m : Nat} {r1 : Root} {n : Nat} (hn : n ≠ m) : Weak st.heap (setN (forgetH m st.heap) m r1) β β n :=
  ⟨rfl, fun r hr => by
    refine ⟨_, by rw [getN_set, if_neg hn, getN_forget, hr]; rfl, ?_, ?_⟩ <;> cases r <;> simp [rsz, rlen, forgetL_len]⟩

theorem forget_shape {h : List Root} {m n : Nat} {r x : Root} (hr : getN h n = some r) (hn : n ≠ m) : ∃ r', getN (setN (forgetH m h) m x) n = some r' ∧ Shape r r' := by
  rw [getN_set, if_neg hn, getN_forget, hr]
  cases r with
  | dead => exact ⟨_, rfl, trivial⟩
  | rows e k xs => exact ⟨_, rfl, Shape.refl _⟩
  | hol e k xs j => exact ⟨_, rfl, Shape.refl _⟩
  | box t vs => exact ⟨_, rfl, rfl, (forgetL_len _ _).symm⟩
theorem Sat.kill (S : Sat own0 w0 st a w β col) (m : Nat) : Sat own0 w0 (kill m st) a w β col := by
  have hz : Zk col col w w := ⟨fun g x hg1 hx => ⟨hg1, hx⟩⟩
  have keep : ∀ c v, vrel st.heap β col w c v → seesN m c = false → vrel (setN (forgetH m st.heap) m .dead) β col w c v := fun c v hv hs =>
    vrel_keep hz (p := fun n => n ≠ m) (q := fun n => n ≠ m ∧ ∃ s, rowsOf st.heap n = some s) (fun n hn => forget_weak hn) (fun n hn => forget_same hn.1 hn.2.choose_spec) S.heap c v
      (sees_not hv hs (fun n r hn _ _ => hn) (fun n s hn hs => ⟨hn, s, hs⟩)) hv
  refine ⟨fun t => ?_, ?_, S.nt, S.defers, S.fr, S.col, by
    show getN (setN (forgetH m st.heap) m .dead) 0 = some .dead
    rw [getN_set, forgetH_len]
    split
    · rw [if_pos (by rename_i e; subst e; exact getN_lt S.zero)]
    · rw [getN_forget, S.zero]; rfl, S.zon, S.fixed fun n r hlt hr => ⟨rfl, ?_⟩⟩
  rotate_right
  · by_cases hn : n = m
    · subst hn
      exact ⟨.dead, by show getN (setN (forgetH n st.heap) n .dead) n = _; rw [getN_set, if_pos rfl, forgetH_len, if_pos (getN_lt hr)], by unfold Shape; trivial⟩
    · exact forget_shape hr hn
  · show vrel _ _ _ _ (lk (forgetE m st.env) t) _
    rw [lk_forget]
    rcases forget_or m (lk st.env t) with h1 | ⟨h1, h2⟩
    · rw [h1]; trivial
    · rw [h1]; exact keep _ _ (S.env t) h2
  · intro n r hr
    show rootRel (setN (forgetH m st.heap) m .dead) β col w n r
    have hr : getN (setN (forgetH m st.heap) m .dead) n = some r := hr
    rw [getN_set] at hr
    split at hr
    · split at hr
      · cases hr; trivial
      · cases hr
    · rename_i hn
      rw [getN_forget] at hr
      cases hx : getN st.heap n with
      | none => rw [hx] at hr; cases hr
      | some r0 =>
        rw [hx] at hr
        have h0 := S.heap n r0 hx
        cases r0 with
        | dead => cases hr; trivial
        | box t vs =>
          cases hr
          obtain ⟨b, cs, h1, h2, h3, h4, h5, h6⟩ := h0
          exact ⟨b, cs, h1, h2, h3, h4, forgetL_ok m (fun c v _ hv hs => keep c v hv hs) h5, forgetL_cell m h6⟩
        | rows e k xs => cases hr; exact h0
        | hol e k xs j => cases hr; exact h0
theorem Sat.kills : ∀ (ms : List Nat) {st : St}, Sat own0 w0 st a w β col → Sat own0 w0 (YtlkbmcmglkdciaaE.kills ms st) a w β col
  | [], _, S => S
  | m :: ms, _, S => Sat.kills ms (S.kill m)
theorem kill_get {m n : Nat} {s : Sl} (hn : n ≠ m) (hs : rowsOf st.heap n = some s) : rowsOf (kill m st).heap n = some s := by
  have : getN (kill m st).heap n = some (.rows s.e s.k s.xs) := by
    show getN (setN (forgetH m st.heap) m .dead) n = _
    rw [getN_set, if_neg hn, getN_forget, rowOf_get hs]; rfl
  exact rowOf_of this
theorem notIn_ok {n : Nat} : ∀ {l : List Nat}, notIn n l = true → n ∉ l
  | [], _ => by simp
  | m :: l, h => by
    simp only [notIn] at h
    cases hb : Nat.beq m n with
    | true => rw [hb] at h; cases h
    | false =>
      rw [hb] at h
      intro hm
      rcases List.mem_cons.1 hm with rfl | hm
      · simp at hb
      · exact notIn_ok h hm
theorem nodupN_ok : ∀ {l : List Nat}, nodupN l = true → l.Nodup
  | [], _ => List.nodup_nil
  | n :: l, h => by
    simp only [nodupN] at h
    cases hb : notIn n l with
    | true => rw [hb] at h; exact List.nodup_cons.2 ⟨notIn_ok hb, nodupN_ok h⟩
    | false => rw [hb] at h; cases h
theorem kills_get {n : Nat} {s : Sl} : ∀ {ms : List Nat} {st : St}, n ∉ ms → rowsOf st.heap n = some s → rowsOf (kills ms st).heap n = some s
  | [], _, _, hs => hs
  | m :: ms, st, hn, hs => kills_get (ms := ms) (st := kill m st) (fun h => hn (List.mem_cons_of_mem _ h)) (kill_get (fun e => hn (by rw [e]; exact List.mem_cons_self)) hs)
theorem kill_dead {m n : Nat} (h : getN st.heap n = some .dead ∨ n = m ∧ n < st.heap.length) : getN (kill m st).heap n = some .dead := by
  show getN (setN (forgetH m st.heap) m .dead) n = _
  rw [getN_set, forgetH_len]
  split
  · rename_i e; subst e
    rcases h with h | h
    · rw [if_pos (getN_lt h)]
    · rw [if_pos h.2]
  · rename_i e
    rcases h with h | h
    · rw [getN_forget, h]; rfl
    · exact absurd h.1 e
theorem kill_len {m : Nat} : (kill m st).heap.length = st.heap.length := by
  show (setN (forgetH m st.heap) m .dead).length = _
  rw [setN_len, forgetH_len]
theorem kills_dead {n : Nat} : ∀ {ms : List Nat} {st : St}, (getN st.heap n = some .dead ∨ n ∈ ms ∧ n < st.heap.length) → getN (kills ms st).heap n = some .dead
  | [], _, h => h.elim id (fun h => by cases h.1)
  | m :: ms, st, h => by
    refine kills_dead (ms := ms) (st := kill m st) ?_
    by_cases hm : n = m ∧ n < st.heap.length
    · exact .inl (kill_dead (.inr hm))
    · rcases h with h | ⟨h1, h2⟩
      · exact .inl (kill_dead (.inl h))
      · rcases List.mem_cons.1 h1 with e | h1
        · exact absurd ⟨e, h2⟩ hm
        · exact .inr ⟨h1, by rw [kill_len]; exact h2⟩
theorem kills_nf : ∀ {ms : List Nat} {st : St}, (kills ms st).nf = st.nf
  | [], _ => rfl
  | m :: ms, st => by rw [kills, kills_nf]; rfl
theorem kills_len : ∀ {ms : List Nat} {st : St}, (kills ms st).heap.length = st.heap.length
  | [], _ => rfl
  | m :: ms, st => by rw [kills, kills_len, kill_len]
end
end Go.Proofs.YtlkbmcmglkdciaaE
