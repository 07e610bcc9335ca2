/- What was taken out is put back. No condition. -/
import Derived.Test.YtlkbmcmglkdciaaE38
set_option linter.unusedVariables false
set_option linter.unusedSectionVars false
set_option linter.unusedSimpArgs false
namespace Go.Proofs.YtlkbmcmglkdciaaE
open Go Go.RowKit
open Classical

theorem zipE_or (n : Nat) (hs gs : List Nat) : ∀ (l l' : List (Nat × AV)) (t : Nat), lk (zipE n hs gs l l') t = .undef ∨ lk (zipE n hs gs l l') t = lk l' t ∨ (lk (zipE n hs gs l l') t = lk l t ∧ loose n hs gs (lk l t) = true)
  | [], _, t => .inl rfl
  | _ :: _, [], t => .inl rfl
  | (u, x) :: l, (u', x') :: l', t => by
    simp only [zipE]
    cases hb : Nat.beq u u' with
    | false => exact .inl rfl
    | true =>
      have := Nat.eq_of_beq_eq_true hb
      subst this
      simp only [cn, lk_cons]
      by_cases e : u = t
      · simp only [if_pos e]
        cases hl : loose n hs gs x with
        | true => exact .inr (.inr ⟨rfl, rfl⟩)
        | false => exact .inr (.inl rfl)
      · simp only [if_neg e]
        exact zipE_or n hs gs l l' t
theorem backE_or (n : Nat) (hs gs : List Nat) (d : Option Nat) (l l' : List (Nat × AV)) (t : Nat) : lk (backE n hs gs d l l') t = .undef ∨ lk (backE n hs gs d l l') t = lk l' t ∨ (d ≠ some t ∧ lk (backE n hs gs d l l') t = lk l t ∧ loose n hs gs (lk l t) = true) := by
  cases d with
  | none =>
    rcases zipE_or n hs gs l l' t with h | h | h
    · exact .inl h
    · exact .inr (.inl h)
    · exact .inr (.inr ⟨by simp, h⟩)
  | some d =>
    cases l' with
    | nil => cases l <;> exact .inl rfl
    | cons p l' =>
      obtain ⟨u, v⟩ := p
      simp only [backE]
      cases hb : Nat.beq u d with
      | false => exact .inl rfl
      | true =>
        have := Nat.eq_of_beq_eq_true hb
        subst this
        simp only [cn, lk_cons]
        by_cases e : u = t
        · simp only [if_pos e]; exact .inr (.inl trivial)
        · simp only [if_neg e]
          rcases zipE_or n hs gs l l' t with h | h | h
          · exact .inl h
          · exact .inr (.inl h)
          · exact .inr (.inr ⟨fun h' => e (by cases h'; rfl), h⟩)
theorem backH_get (n : Nat) (ns gs : List Nat) : ∀ (l l' : List Root) (j m : Nat), getN (backH n ns gs j l l') m = getN l' m ∨ ∃ t ws, getN l m = some (.box t ws) ∧ (j + m) ∉ ns ∧ ws.all (loose n ns gs) = true ∧ getN (backH n ns gs j l l') m = some (.box t ws) ∧ ∃ r, getN l' m = some r
  | [], l', j, m => Or.inl (by simp [backH])
  | .dead :: _, [], j, m => Or.inl (by simp [backH])
  | .box _ _ :: _, [], j, m => Or.inl (by simp [backH])
  | .rows _ _ _ :: _, [], j, m => Or.inl (by simp [backH])
  | .hol _ _ _ _ :: _, [], j, m => Or.inl (by simp [backH])
  | r0 :: l, r :: l', j, m => by
    have hrec := backH_get n ns gs l l' (j + 1)
    cases m with
    | succ m =>
      rw [show j + (m + 1) = j + 1 + m by omega]
      cases r0 <;> exact hrec m
    | zero =>
      cases r0 with
      | box t ws =>
        simp only [backH, getN]
        cases hb : (notIn j ns && ws.all (loose n ns gs)) with
        | false => exact Or.inl (by simp [cn])
        | true =>
          simp only [Bool.and_eq_true] at hb
          exact Or.inr ⟨t, ws, rfl, notIn_ok hb.1, hb.2, by simp [cn], _, rfl⟩
      | _ => exact Or.inl (by simp [backH, getN])
theorem backH_len (n : Nat) (ns gs : List Nat) : ∀ (l l' : List Root) (j : Nat), (backH n ns gs j l l').length = l'.length
  | [], l', j => by simp [backH]
  | .dead :: _, [], j => rfl
  | .box _ _ :: _, [], j => rfl
  | .rows _ _ _ :: _, [], j => rfl
  | .hol _ _ _ _ :: _, [], j => rfl
  | r0 :: l, r :: l', j => by cases r0 <;> simp [backH, backH_len n ns gs l l' (j + 1)]

/-- The root that a value names loosely. -/
inductive seesM : AV → Nat → Prop where
  | ref (n : Nat) : seesM (.ref n) n
  | win (n a b : Nat) : seesM (.win n a b) n
  | ptr (n a b : Nat) : seesM (.ptr n a b) n
section
variable {h h' : List Root} {β β' : Bs} {col col' : Col} {w w' : World}
theorem loose1_keep {n : Nat} {hs gs : List Nat} (kr : ∀ (a : AV) (v : Value), (∀ m, seesM a m → m ∉ gs) → (∀ m i c, a ≠ .sub m i c) → loose1 n hs gs a = true → vrel h β col w a v → vrel h' β' col' w' a v)
    (ks : ∀ m i c v, (m = n ∨ m ∉ hs ∧ m ∉ gs) → vrel h β col w (.sub m i c) v → vrel h' β' col' w' (.sub m i c) v) : ∀ (a : AV) (v : Value), loose1 n hs gs a = true → vrel h β col w a v → vrel h' β' col' w' a v := by
  intro a v hl hv
  cases a
  case sub m i c =>
    refine ks m i c v ?_ hv
    rcases cn_or hl with ⟨h, _⟩ | ⟨_, h⟩
    · exact .inl (Nat.eq_of_beq_eq_true h)
    · simp only [Bool.and_eq_true] at h
      exact .inr ⟨notIn_ok h.1, notIn_ok h.2⟩
  case ref m => exact kr _ _ (fun m' hm => by cases hm; exact notIn_ok hl) (fun _ _ _ e => by cases e) hl hv
  case win m _ _ => exact kr _ _ (fun m' hm => by cases hm; exact notIn_ok hl) (fun _ _ _ e => by cases e) hl hv
  case ptr m _ _ => exact kr _ _ (fun m' hm => by cases hm; exact notIn_ok hl) (fun _ _ _ e => by cases e) hl hv
  all_goals first | (cases hl; done) | exact kr _ _ (fun m' hm => by cases hm) (fun _ _ _ e => by cases e) hl hv
theorem loose1s_keep {n : Nat} {hs gs : List Nat} (k : ∀ (a : AV) (v : Value), loose1 n hs gs a = true → vrel h β col w a v → vrel h' β' col' w' a v) : ∀ (l : List AV) (vs : List Value), l.all (loose1 n hs gs) = true → vrels h β col w l vs → vrels h' β' col' w' l vs
  | [], [], _, _ => trivial
  | [], _ :: _, _, hv => hv.elim
  | a :: l, v :: vs, hl, hv => by
    simp only [List.all_cons, Bool.and_eq_true] at hl
    exact ⟨k a v hl.1 hv.1, loose1s_keep k l vs hl.2 hv.2⟩
  | _ :: _, [], _, hv => hv.elim
theorem loose_keep {n : Nat} {hs gs : List Nat} (k : ∀ (a : AV) (v : Value), loose1 n hs gs a = true → vrel h β col w a v → vrel h' β' col' w' a v) (a : AV) (v : Value) (hl : loose n hs gs a = true) (hv : vrel h β col w a v) : vrel h' β' col' w' a v := by
  cases a with
  | agg vs => obtain ⟨cs, e, h2⟩ := hv; exact ⟨cs, e, loose1s_keep k vs _ hl h2⟩
  | _ => exact k _ v hl hv
theorem looses_keep {n : Nat} {hs gs : List Nat} (k : ∀ (a : AV) (v : Value), loose n hs gs a = true → vrel h β col w a v → vrel h' β' col' w' a v) : ∀ (l : List AV) (vs : List Value), l.all (loose n hs gs) = true → vrels h β col w l vs → vrels h' β' col' w' l vs
  | [], [], _, _ => trivial
  | [], _ :: _, _, hv => hv.elim
  | a :: l, v :: vs, hl, hv => by
    simp only [List.all_cons, Bool.and_eq_true] at hl
    exact ⟨k a v hl.1 hv.1, looses_keep k l vs hl.2 hv.2⟩
  | _ :: _, [], _, hv => hv.elim
theorem subAt_ex : ∀ (k : Kind) (x x' : k.den) (c : Nat) {y : AV}, subAt k x c = some y → ∃ y', subAt k x' c = some y' := by
  intro k
  induction k with
  | int _ => intro x x' c y h; simp [subAt] at h
  | bool => intro x x' c y h; simp [subAt] at h
  | str => intro x x' c y h; simp [subAt] at h
  | pair p q ihp ihq =>
    intro x x' c y h
    simp only [subAt, cn] at h ⊢
    cases hb : Nat.blt c p.sz with
    | true => rw [hb] at h; exact ihp _ _ _ h
    | false => rw [hb] at h; exact ihq _ _ _ h
  | sl e k _ =>
    intro x x' c y h
    cases c with
    | zero => exact ⟨_, rfl⟩
    | succ c => simp [subAt] at h
theorem Weak.trans {h1 h2 h3 : List Root} {b1 b2 b3 : Bs} {n : Nat} (p : Weak h1 h2 b1 b2 n) (q : Weak h2 h3 b2 b3 n) : Weak h1 h3 b1 b3 n :=
  ⟨q.base.trans p.base, fun r hr => by
    obtain ⟨r1, h4, h5, h6⟩ := p.ptr r hr
    obtain ⟨r2, h7, h8, h9⟩ := q.ptr r1 h4
    exact ⟨r2, h7, h8.trans h5, h9.trans h6⟩⟩
end

theorem denAt_ms {h : List Root} : ∀ {k : Kind} {x : k.den} {vs : List AV} {y : k.den} {ms : List Nat}, denAt h k x vs = some (y, ms) → ∀ m ∈ ms, AV.ref m ∈ vs := by
  intro k
  induction k with
  | pair p q ihp ihq =>
    intro x vs y ms hd m hm
    simp only [denAt] at hd
    split at hd
    · rename_i y1 l1 h1
      split at hd
      · rename_i z l2 h2
        cases hd
        rw [takeN_eq] at h1
        rw [dropN_eq] at h2
        rcases List.mem_append.1 hm with hm | hm
        · exact List.mem_of_mem_take (ihp h1 m hm)
        · exact List.mem_of_mem_drop (ihq h2 m hm)
      · cases hd
    · cases hd
  | sl e k ih =>
    intro x vs y ms hd m hm
    cases vs with
    | nil => simp [denAt] at hd
    | cons v l => cases l with
      | cons v2 l => cases v <;> simp [denAt] at hd
      | nil =>
        cases v <;> simp only [denAt] at hd <;> first | (cases hd; done) | skip
        · cases hd; cases hm
        · obtain ⟨h1, h2⟩ := cn_some hd; cases h2; cases hm
        · split at hd
          · rename_i s hs
            obtain ⟨h1, h2⟩ := cn_some hd
            split at h2
            · cases h2
              rw [List.mem_singleton] at hm; subst hm; exact List.mem_cons_self
            · cases h2
          · cases hd
  | _ =>
    intro x vs y ms hd m hm
    cases vs with
    | nil => simp [denAt] at hd
    | cons v l => cases l with
      | cons v2 l => cases v <;> simp [denAt] at hd
      | nil =>
        cases v <;> simp only [denAt] at hd <;> first | (cases hd; done) | skip
        first
        | (cases hd; cases hm; done)
        | (have hd' := (cn_some hd).2; cases hd'; cases hm)
def scal : AV → Bool
  | .undef | .int _ _ | .bool _ | .str _ => true
  | _ => false
theorem cellsK_scal : ∀ {k : Kind} {x : k.den} {v : AV}, v ∈ cellsK k x → scal v = true
  | .int _, _, _, h => by simp [cellsK] at h; subst h; rfl
  | .bool, _, _, h => by simp [cellsK] at h; subst h; rfl
  | .str, _, _, h => by simp [cellsK] at h; subst h; rfl
  | .pair a b, _, _, h => by
    rcases List.mem_append.1 (show _ ∈ cellsK a _ ++ cellsK b _ from h) with h | h
    · exact cellsK_scal h
    · exact cellsK_scal h
  | .sl _ _, _, _, h => by simp [cellsK] at h; subst h; rfl
theorem scal_vrel {h h' : List Root} {β β' : Bs} {col col' : Col} {w w' : World} {v : AV} {c : Value} (hs : scal v = true) (hv : vrel h β col w v c) : vrel h' β' col' w' v c := by
  cases v <;> first | (cases hs; done) | trivial | exact hv
end Go.Proofs.YtlkbmcmglkdciaaE
