/- Regions whose order is drawn hold. Comes between E33 and E24. No condition. -/
import Derived.Test.YtlkbmcmglkdciaaE33
set_option linter.unusedVariables false
set_option linter.unusedSectionVars false
set_option linter.unusedSimpArgs false
namespace Go.Proofs.YtlkbmcmglkdciaaE
open Go Go.RowKit

section
variable {R : Type} {r : R} {own0 : Own} {w0 : World} {X : Ctx}

theorem opX_pure {st : St} {a : Act} {w : World} {β : Bs} {col : Col} {o : Oper} {κ : St → Option R} (S : Sat own0 w0 st a w β col) (hp : pureOp X.P o = true) (h : opX X o st κ = some r) :
    ∃ x st', (∀ w2 : World, nomem o = true ∨ Below w.heap.size w w2 → (execOp a.eval o).run X.P w2 = .ok (.value x) w2) ∧ κ st' = some r ∧ Sat own0 w0 st' (a.put o.dst x) w β col := by
  have h' : (match stepX X.P o st with
    | some (c, v, st') => gd c (match st'.put o.dst v with | some s => κ s | none => none)
    | none => none) = some r := by
    unfold opX at h
    split at h
    · rename_i f args tys ho
      unfold pureOp at hp
      rw [ho] at hp
      cases hp
    · exact h
  clear h
  split at h'
  · rename_i c v st' h1
    cases c
    · cases h'
    · simp only [gd] at h'
      split at h'
      · rename_i s hs
        obtain ⟨rfl, x, h2, h3⟩ := pure_ok S hp h1
        exact ⟨x, s, h2, h', S.put hs h3⟩
      · cases h'
  · cases h'

theorem guardX_pure {ops : Array Oper} {o : Oper} {st : St} {a : Act} {w : World} {β : Bs} {col : Col} {κ : St → Option R} (S : Sat own0 w0 st a w β col) (hp : pureOp X.P o = true) {Z : World → Prop} (hZ : ∀ w2, Z w2 → nomem o = true ∨ Below w.heap.size w w2)
    (h : guardX X ops.toList o st κ = some r) : ∃ x st', YieldsIf X.P ops Z o x a ∧ κ st' = some r ∧ Sat own0 w0 st' (a.put o.dst x) w β col := by
  unfold guardX at h
  split at h
  · rename_i hg
    obtain ⟨x, st', h1, h2, h3⟩ := opX_pure S hp h
    exact ⟨x, st', .inl ⟨by unfold Region.wanted; rw [hg], fun w2 hw => h1 w2 (hZ w2 hw)⟩, h2, h3⟩
  · rename_i j want hg
    split at h
    case h_2 => cases h
    rename_i g hgj
    rw [getN_eq, Array.getElem?_toList] at hgj
    split at h
    case h_2 => cases h
    rename_i t ht
    have hw : Region.wanted o (yielded ops a.tmps) = (yielded ops a.tmps j == some want) := by unfold Region.wanted; rw [hg]
    split at h
    · rename_i b hb
      have hy := yielded_ok S hgj ht b hb
      have S1 : Sat own0 w0 { st with env := (t, .bool b) :: st.env } a w β col := by have := S.again t; rw [hb] at this; exact this
      have step : ∀ v, v = b → cn (cn v want (!want)) (opX X o { st with env := (t, .bool v) :: st.env } κ)
            (match ({ st with env := (t, .bool v) :: st.env } : St).put o.dst (.tup []) with | some s => κ s | none => none) = some r →
          ∃ x st', YieldsIf X.P ops Z o x a ∧ κ st' = some r ∧ Sat own0 w0 st' (a.put o.dst x) w β col := by
        rintro v rfl h
        rcases cn_or h with ⟨h1, h2⟩ | ⟨h1, h2⟩
        · have : v = want := by cases v <;> cases want <;> simp_all [cn]
          subst this
          obtain ⟨x, st', q1, q2, q3⟩ := opX_pure S1 hp h2
          exact ⟨x, st', .inl ⟨by rw [hw, hy]; simp, fun w2 hw => q1 w2 (hZ w2 hw)⟩, q2, q3⟩
        · have : ¬ v = want := by cases v <;> cases want <;> simp_all [cn]
          split at h2
          · rename_i s hs
            exact ⟨undef, s, .inr ⟨by rw [hw, hy]; simpa using this, rfl⟩, h2, S1.skip hs⟩
          · cases h2
      rcases cn_or h with ⟨rfl, h⟩ | ⟨rfl, h⟩
      · exact step true rfl h
      · exact step false rfl h
    · rename_i hb
      have hy := yielded_none S hgj ht hb
      split at h
      · rename_i s hs
        exact ⟨undef, s, .inr ⟨by rw [hw, hy]; simp, rfl⟩, h, S.skip hs⟩
      · cases h
    · cases h

/-- The same of a load from a box: only blocks of the box's type matter. -/
theorem guardX_pureQ {ops : Array Oper} {o : Oper} {st : St} {a : Act} {w : World} {β : Bs} {col : Col} {κ : St → Option R} (S : Sat own0 w0 st a w β col) (hp : pureOp X.P o = true)
    (h : guardX X ops.toList o st κ = some r) : ∃ x st', YieldsIf X.P ops (BelowQ (loadQ st o) w) o x a ∧ κ st' = some r ∧ Sat own0 w0 st' (a.put o.dst x) w β col := by
  cases hn : nomem o with
  | true => exact guardX_pure S hp (fun _ _ => .inl hn) h
  | false =>
  cases hq : loadQ st o with
  | none => exact guardX_pure S hp (fun w2 hB => .inr (hB.resolve_left (by simp [qFree]))) h
  | some t =>
    unfold loadQ at hq
    rw [hn] at hq
    simp only [cn] at hq
    split at hq
    case h_2 => cases hq
    rename_i t0 x0 hg ho
    split at hq
    case h_2 => cases hq
    rename_i n i c hx
    split at hq
    case h_2 => cases hq
    rename_i t1 vs hb
    split at hq
    · cases hq
    rename_i hfree
    cases hq
    have hv := ev_ok S hx
    obtain ⟨r0, b, q1, q2, q3, q4⟩ := hv
    have q1' : getN st.heap n = some r0 := q1
    rw [hb] at q1'; cases q1'
    obtain ⟨b', cs, k1, k2, k3, k4, _⟩ := S.heap n _ hb
    rw [q2] at k1; cases k1
    unfold guardX at h
    rw [hg] at h
    simp only at h
    unfold opX at h
    rw [ho] at h
    simp only at h
    split at h
    case h_2 => cases h
    rename_i c1 v st' h1
    cases c1
    · cases h
    simp only [gd] at h
    split at h
    case h_2 => cases h
    rename_i s hs
    unfold stepX at h1
    rw [ho] at h1
    simp only [hx] at h1
    have hz : ∀ (g o' : Nat) (cs' : Array Value) (e : Nat) (fz : Nat × Nat), a.eval x0 = .pointer (some ⟨g, o', none⟩) → w.heap[g]? = some (.cells cs' e fz) → ∀ w2, BelowQ (some t) w w2 → w2.heap[g]? = some (.cells cs' e fz) := by
      intro g o' cs' e fz hxe hw w2 hB
      rw [q3] at hxe
      cases hxe
      exact ((hB.resolve_left (by simp only [qFree]; rw [hfree]; simp)).2 b.g _ _ k4).trans hw
    obtain ⟨rfl, y, hy, hrel⟩ := load_okZ S (Z := BelowQ (some t) w) hz (ev_ok S hx) h1
    refine ⟨y, s, .inl ⟨by unfold Region.wanted; rw [hg], fun w2 hB => ?_⟩, h, S.put hs hrel⟩
    unfold execOp
    rw [ho]
    exact run_value (hy w2 hB)
theorem freeL_ok {q : Option Nat} {ops : Array Oper} {done : List Nat} {i : Nat} {oi : Oper} : ∀ {l : List Oper} {k : Nat}, freeL X q ops done i oi k l = true → ∀ j oj, l[j]? = some oj → k + j ≠ i → notIn (k + j) done = true →
    ((oj.after.toList.any (fun e => bindsA e && Nat.beq e.on i) || oi.apart ops oj) = true) ∧ (wrX X q oj = true → waitsB ops.toList 8 (k + j) i = true)
  | [], k, _, j, oj, hj, _, _ => by simp at hj
  | o :: l, k, h, j, oj, hj, hne, hun => by
    simp only [freeL] at h
    rcases cn_or h with ⟨h1, h2⟩ | ⟨_, h2⟩
    · cases j with
      | zero =>
        simp at hj; subst hj
        rw [Nat.add_zero] at hne hun ⊢
        simp only [Bool.or_eq_true, Bool.and_eq_true] at h1
        rcases h1 with (h1 | h1) | h1
        · exact absurd (Nat.eq_of_beq_eq_true h1) hne
        · rw [hun] at h1; cases h1
        · refine ⟨by simpa [Bool.or_eq_true] using h1.1, fun hw => ?_⟩
          rcases h1.2 with h | h
          · rw [hw] at h; cases h
          · exact h
      | succ j =>
        have := freeL_ok h2 j oj (by simpa using hj) (by omega) (by rwa [show k + 1 + j = k + (j + 1) by omega])
        rwa [show k + 1 + j = k + (j + 1) by omega] at this
    · cases h2
theorem pickB_ok {st : St} {ops : Array Oper} {done : List Nat} : ∀ {l : List Nat} {i : Nat}, pickB X st ops done l = some i → i ∈ l ∧ ∃ o, ops[i]? = some o ∧ pureOp X.P o = true ∧ freeL X (loadQ st o) ops done i o 0 ops.toList = true
  | [], _, h => by cases h
  | k :: l, i, h => by
    simp only [pickB] at h
    split at h
    · rename_i o ho
      rcases cn_or h with ⟨h1, h2⟩ | ⟨_, h2⟩
      · cases h2
        simp only [Bool.and_eq_true] at h1
        rw [getN_eq, Array.getElem?_toList] at ho
        exact ⟨List.mem_cons_self, o, ho, h1⟩
      · obtain ⟨a, b⟩ := pickB_ok h2
        exact ⟨List.mem_cons_of_mem _ a, b⟩
    · cases h

def wrN (X : Ctx) (ops : Array Oper) (q : Option Nat) (j : Nat) : Bool := match ops[j]? with | some o => wrX X q o | none => false

theorem both_some {R : Type} {x y : Option R} {r : R} (h : both x y = some r) : x = some r ∧ y = some r := by
  unfold both at h
  split at h
  · rename_i e; exact ⟨h, e ▸ h⟩
  · cases h
theorem both_self {R : Type} (x : Option R) : both x x = x := by
  unfold both; rw [if_pos rfl]
theorem dup_eq {R : Type} (x : Option R) : dup x = x := both_self x
theorem bothAll_mem {R : Type} {r : R} : ∀ {l : List (Option R)} {x : Option R}, bothAll l = some r → x ∈ l → x = some r
  | [], _, h, _ => by cases h
  | [y], x, h, hx => by rw [List.mem_singleton.1 hx]; exact h
  | y :: z :: l, x, h, hx => by
    obtain ⟨h1, h2⟩ := both_some h
    rcases List.mem_cons.1 hx with rfl | hx
    · exact h1
    · exact bothAll_mem h2 hx
theorem drawGo_ok (hC : CallsOk X) {ops : Array Oper} {κ : St → Option R} {Q : Exit → Act → World → Prop} (hsel : Region.noSelect ops = true) (hQ : ∀ c a w, ¬ Q (.panic c) a w)
    (hK : ∀ st' a' w' β' col', κ st' = some r → Sat own0 w0 st' a' w' β' col' → Q .normal a' w') :
    ∀ (n : Nat) {listed : Array Bool} {done : List Nat} {st : St} {a : Act} {w : World} {β : Bs} {col : Col}, ND ops listed done → Closed ops listed → Sat own0 w0 st a w β col →
      drawGo X ops n done st κ = some r → wpAnyL X.P ops (wrN X ops) Q n listed a w
  | 0, listed, done, st, a, w, β, col, N, hcl, S, h => by
    simp only [drawGo] at h
    obtain ⟨h1, h2⟩ := cn_some h
    refine ⟨List.eq_nil_iff_forall_not_mem.2 fun i hi => ?_, hK _ _ _ _ _ h2 S⟩
    rw [N.readyL] at hi
    cases hx : readyL done 0 ops.toList with
    | nil => rw [hx] at hi; cases hi
    | cons _ _ => rw [hx] at h1; cases h1
  | n + 1, listed, done, st, a, w, β, col, N, hcl, S, h => by
    simp only [drawGo] at h
    have tail : ∀ i, i ∈ Region.ready .any ops listed → ND ops (listed.setIfInBounds i true) (i :: done) ∧ Closed ops (listed.setIfInBounds i true) := fun i hi => by
      obtain ⟨_, o, ho, hall⟩ := mem_ready.1 hi
      exact ⟨N.set (Array.getElem?_eq_some_iff.1 ho).1, closed_set hcl ho hall⟩
    split at h
    · rename_i hx
      refine ⟨fun _ => hK _ _ _ _ _ h S, fun i hi => ?_⟩
      rw [N.readyL, hx] at hi; cases hi
    · rename_i k ks hx
      split at h
      · rename_i i hpick
        obtain ⟨hmem, o, ho, hp, hfree⟩ := pickB_ok hpick
        rw [← hx, ← N.readyL] at hmem
        rw [getN_eq, Array.getElem?_toList, ho] at h
        simp only at h
        obtain ⟨x, st', hy, hk, S'⟩ := guardX_pureQ S hp h
        obtain ⟨t1, t2⟩ := tail i hmem
        have un : ∀ j oj, ops[j]? = some oj → listed.getD j true = false → notIn j done = true := fun j oj hj hun => by
          rw [N.getD, if_pos (Array.getElem?_eq_some_iff.1 hj).1] at hun
          cases hh : notIn j done with
          | true => rfl
          | false => rw [hh] at hun; cases hun
        have fr : ∀ j oj, ops[j]? = some oj → j ≠ i → listed.getD j true = false → ((oj.after.toList.any (fun e => bindsA e && Nat.beq e.on i) || o.apart ops oj) = true) ∧ (wrX X (loadQ st o) oj = true → waitsB ops.toList 8 j i = true) := fun j oj hj hne hun => by
          have := freeL_ok hfree j oj (by rw [Array.getElem?_toList]; exact hj) (by rwa [Nat.zero_add]) (by rw [Nat.zero_add]; exact un j oj hj hun)
          rwa [Nat.zero_add] at this
        refine wpAnyL_first ho (Region.noSelect_spec hsel) (fun c a w h => absurd h (hQ _ _ _)) n listed a w hcl (fun j oj hj hne hun hno => ?_) (fun j oj hj hne hun hw => ?_) hmem hy (drawGo_ok hC hsel hQ hK n t1 t2 S' hk)
        · have := (fr j oj hj hne hun).1
          rw [Bool.or_eq_true] at this
          rcases this with h | h
          · exfalso
            simp only [List.any_eq_true, Bool.and_eq_true] at h
            obtain ⟨e, he, hb, hon⟩ := h
            exact hno e (by simpa using he) (by rw [binds_eq]; exact hb) (Nat.eq_of_beq_eq_true hon)
          · exact h
        · exact ⟨8, (fr j oj hj hne hun).2 (by unfold wrN at hw; rw [hj] at hw; exact hw)⟩
      · refine ⟨fun he => ?_, fun i hi => ?_⟩
        · have : k ∈ Region.ready .any ops listed := by rw [N.readyL, hx]; exact List.mem_cons_self
          rw [he] at this; cases this
        · have hi0 := hi
          rw [N.readyL, hx] at hi
          have h2 := bothAll_mem h (List.mem_map_of_mem hi)
          split at h2
          case h_2 => cases h2
          rename_i o ho
          rw [getN_eq, Array.getElem?_toList] at ho
          obtain ⟨t1, t2⟩ := tail i hi0
          rw [wpOp_list ho]
          exact guardX_ok hC S h2 fun st' a' w' β' col' h' S' hb => ⟨fun q hw => hb q (by unfold wrN at hw; rw [ho] at hw; exact hw), drawGo_ok hC hsel hQ hK n t1 t2 S' h'⟩

theorem drawX_ok (hC : CallsOk X) {id : Nat} {ops : Array Oper} {st : St} {a : Act} {w : World} {β : Bs} {col : Col} {κ : St → Option R} {Q : Exit → Act → World → Prop}
    (S : Sat own0 w0 st a w β col) (h : drawX X ops st κ = some r)
    (hK : ∀ st' a' w' β' col', κ st' = some r → Sat own0 w0 st' a' w' β' col' → Q .normal a' w') : (Code.region id ops true).wp X.P Q a w := by
  unfold drawX at h
  obtain ⟨h1, h2⟩ := cn_some h
  simp only [Bool.and_eq_true] at h1
  let Q' : Exit → Act → World → Prop := fun e a w => Q e a w ∧ ∀ c, e ≠ .panic c
  have S' : Sat own0 w0 st a { w with drawn := w.drawn + 1 } β col := by
    have hz : ∀ g o, zone col g → w.heap[g]? = some o → zone col g ∧ ({ w with drawn := w.drawn + 1 } : World).heap[g]? = some o := fun g o hg hw => ⟨hg, hw⟩
    have hzk : Zk col col w { w with drawn := w.drawn + 1 } := ⟨fun g o hg hw => ⟨hg, hw⟩⟩
    have weak : ∀ n, Weak st.heap st.heap β β n := fun n => ⟨rfl, fun r hr => ⟨r, hr, rfl, rfl⟩⟩
    have same : ∀ n, Same st.heap st.heap β β col col w { w with drawn := w.drawn + 1 } n := fun n => ⟨rfl, rfl, fun g o _ hw => ⟨rfl, hw⟩⟩
    refine S.move hzk (p := (· < st.heap.length)) (q := (· < st.heap.length)) (fun n _ => weak n) (fun n _ => same n) (fun t => .inr ⟨rfl, vrel_sees _ _ (S.env t)⟩) (fun n r hr => ?_) ⟨S.fr.os, S.fr.tape, S.fr.output, S.fr.size, S.fr.block⟩ S.col S.zero (fun g _ h => h) (fun n r _ hr => ⟨rfl, r, hr, Shape.refl r⟩)
    refine rootRel_keep hzk (p := (· < st.heap.length)) (q := (· < st.heap.length)) (fun n _ => weak n) (fun n _ => same n) S.heap (same n) r (fun t vs e => ?_) (S.heap n r hr)
    subst e
    obtain ⟨b, cs, _, _, _, _, h5, _⟩ := S.heap n _ hr
    exact vrels_sees vs _ h5
  have N : ND ops (Array.replicate ops.size false) [] := ⟨by simp, fun i hi => by simp [hi, notIn], fun i hi => by cases hi⟩
  have C : Closed ops (Array.replicate ops.size false) := fun l o hl _ _ _ _ => by
    rw [Array.getD_eq_getD_getElem?, Array.getElem?_replicate] at hl
    split at hl <;> cases hl
  have main := drawGo_ok (Q := Q') hC h1.2 (fun c a w h => h.2 c rfl) (fun st' a' w' β' col' h' S' => ⟨hK _ _ _ _ _ h' S', fun c e => by cases e⟩) ops.size N C S' h2
  exact Code.wp_mono (fun e a w h => h.1) (wp_region_any h1.1 (wpAny_of_L _ _ _ _ main))
end
end Go.Proofs.YtlkbmcmglkdciaaE
