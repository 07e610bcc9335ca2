/- Calls hold: into the callee, and back. No condition. -/
import Derived.Test.YtlkbmcmglkdciaaE28
import Derived.Test.YtlkbmcmglkdciaaE40
set_option linter.unusedVariables false
set_option linter.unusedSectionVars false
set_option linter.unusedSimpArgs false
namespace Go.Proofs.YtlkbmcmglkdciaaE
open Go Go.RowKit
open Classical

section
variable {own0 : Own} {w0 : World} {st : St} {a : Act} {w : World} {β : Bs} {col : Col} {P : Program} {ms : List Mode} {tys : List Nat} {as ts : List AV}

def handL (ms : List Mode) (as : List AV) : List (Option Nat) := (nsOf ms as).map some ++ gsOf ms as
theorem handL_somes : somes (handL ms as) = nsOf ms as ++ somes (gsOf ms as) := by rw [handL, somes_app, somes_map]
theorem handL_stay {i n : Nat} (h : (nsOf ms as)[i]? = some n) : (handL ms as)[i]? = some (some n) := by
  have hlt := (List.getElem?_eq_some_iff.1 h).1
  rw [handL, List.getElem?_append_left (by simpa using hlt), List.getElem?_map, h]; rfl
theorem handL_give {i : Nat} {o : Option Nat} (h : (gsOf ms as)[i]? = some o) : (handL ms as)[(nsOf ms as).length + i]? = some o := by
  rw [handL, List.getElem?_append_right (by simp)]
  simpa using h
theorem getN_cons {A : Type} (x : A) (l : List A) (n : Nat) : getN (x :: l) (n + 1) = getN l n := rfl
theorem heapC_stay {i : Nat} {r : Root} (h : (stayR ms ts)[i]? = some r) : getN (heapC ms ts) (1 + i) = some r := by
  have hlt := (List.getElem?_eq_some_iff.1 h).1
  rw [heapC, Nat.add_comm 1 i, getN_cons, getN_eq, List.getElem?_append_left hlt, h]
theorem heapC_give {i : Nat} {r : Root} (h : (giveR ms ts)[i]? = some r) : getN (heapC ms ts) (nfC ms ts + i) = some r := by
  rw [heapC, nfC, show 1 + (stayR ms ts).length + i = ((stayR ms ts).length + i) + 1 by omega, getN_cons, getN_eq, List.getElem?_append_right (by omega), show (stayR ms ts).length + i - (stayR ms ts).length = i by omega, h]
theorem heapC_cases {j : Nat} {r : Root} (h : getN (heapC ms ts) j = some r) : (j = 0 ∧ r = .dead) ∨ (∃ i, j = 1 + i ∧ (stayR ms ts)[i]? = some r) ∨ ∃ i, j = nfC ms ts + i ∧ (giveR ms ts)[i]? = some r := by
  cases j with
  | zero => cases h; exact .inl ⟨rfl, rfl⟩
  | succ j =>
    rw [heapC, getN_cons, getN_eq] at h
    rcases Nat.lt_or_ge j (stayR ms ts).length with hlt | hge
    · rw [List.getElem?_append_left hlt] at h
      exact .inr (.inl ⟨j, by omega, h⟩)
    · rw [List.getElem?_append_right hge] at h
      exact .inr (.inr ⟨j - (stayR ms ts).length, by unfold nfC; omega, h⟩)

theorem call_in (S : Sat own0 w0 st a w β col) {vs : List Value} (ht : tsOf P st.heap ms tys as = some ts) (hv : vrels st.heap β col w as vs)
    (hnd : (nsOf ms as ++ somes (gsOf ms as)).Nodup) (hap : ∀ n ∈ looksOf st.heap ms as, n ∉ nsOf ms as ++ somes (gsOf ms as)) :
    vrels (heapC ms ts) (hereB (handL ms as) β) (hereC (handL ms as) (isE (looksOf st.heap ms as)) col) w (enterV ms ts 1 (nfC ms ts)) vs ∧
    (∀ n r, getN (heapC ms ts) n = some r → rootRel (heapC ms ts) (hereB (handL ms as) β) (hereC (handL ms as) (isE (looksOf st.heap ms as)) col) w n r) ∧
    (∀ g, hereC (handL ms as) (isE (looksOf st.heap ms as)) col g ≠ none → g < w.heap.size) := by
  have hsm : (somes (handL ms as)).Nodup := by rw [handL_somes]; exact hnd
  obtain ⟨sh1, sh2, sh3, sh4⟩ := shapes ht
  have hz : ∀ g, col g = none → hereC (handL ms as) (isE (looksOf st.heap ms as)) col g = none := fun g h => hereC_none h
  have hlook : ∀ n ∈ looksOf st.heap ms as, ∀ g y, col g = some (n, y) → hereC (handL ms as) (isE (looksOf st.heap ms as)) col g = none := by
    intro n hn g y hc
    obtain ⟨r, hr, hd⟩ := looksOf_live ht n hn
    refine hereC_look ?_ (live_ne S.zero hr hd) (by rw [handL_somes]; exact hap n hn) hc
    cases hl : looksOf st.heap ms as with
    | nil => rw [hl] at hn; cases hn
    | cons _ _ => rfl
  have hβs : ∀ i n, (nsOf ms as)[i]? = some n → hereB (handL ms as) β (1 + i) = β n := fun i n h => by
    rw [Nat.add_comm 1 i]; simp only [hereB, handL_stay h]; rfl
  have hβg : ∀ (i : Nat) (o : Option Nat), (gsOf ms as)[i]? = some o → hereB (handL ms as) β (nfC ms ts + i) = o.bind β := fun i o h => by
    rw [nfC, sh2, show 1 + (nsOf ms as).length + i = ((nsOf ms as).length + i) + 1 by omega]; simp only [hereB, handL_give h]; rfl
  have hcs : ∀ i n g x, (nsOf ms as)[i]? = some n → n ≠ 0 → col g = some (n, x) → hereC (handL ms as) (isE (looksOf st.heap ms as)) col g = some (1 + i, x) := fun i n g x h h0 hc => by
    rw [Nat.add_comm 1 i]; exact hereC_of hsm (handL_stay h) h0 hc
  have hcg : ∀ i n g x, (gsOf ms as)[i]? = some (some n) → n ≠ 0 → col g = some (n, x) → hereC (handL ms as) (isE (looksOf st.heap ms as)) col g = some (nfC ms ts + i, x) := fun i n g x h h0 hc => by
    rw [nfC, sh2, show 1 + (nsOf ms as).length + i = ((nsOf ms as).length + i) + 1 by omega]
    exact hereC_of hsm (handL_give h) h0 hc
  have rows : ∀ {j n e : Nat} {k : Kind} {xs : List k.den}, getN st.heap n = some (.rows e k xs) → hereB (handL ms as) β j = β n →
      (∀ g x, col g = some (n, x) → hereC (handL ms as) (isE (looksOf st.heap ms as)) col g = some (j, x)) →
      rootRel (heapC ms ts) (hereB (handL ms as) β) (hereC (handL ms as) (isE (looksOf st.heap ms as)) col) w j (.rows e k xs) := by
    intro j n e k xs hr hb hc
    have hR := S.heap n _ hr
    unfold rootRel at hR ⊢
    rw [hb]
    cases hβ : β n with
    | none => rw [hβ] at hR; exact hR
    | some b =>
      rw [hβ] at hR
      obtain ⟨cs, fz, k1, k2, k3, k4, k5, k6, k7⟩ := hR
      exact ⟨cs, fz, hc _ _ k1, k2, k3, k4, k5, fun i hi => rep_mono (fun g o hg hw => ⟨hc g _ hg, hw⟩) (k6 i hi), owns_mono (fun g o hg hw => ⟨hc g _ hg, hw⟩) k7⟩
  refine ⟨?_, ?_, ?_⟩
  · exact args_ok S hz ht hv hlook (fun i r h => heapC_stay h) hβs (fun i r h => heapC_give h) hβg
  · intro j r hr
    rcases heapC_cases hr with ⟨rfl, rfl⟩ | ⟨i, rfl, hi⟩ | ⟨i, rfl, hi⟩
    · trivial
    · obtain ⟨n, l, hn, hst, hl⟩ := sh1 i r hi
      cases hst with
      | rows h1 =>
        have h0 := live_ne S.zero h1 (by simp)
        exact rows h1 (hβs i n hn) (fun g x hc => hcs i n g x hn h0 hc)
      | box h1 h2 =>
        have h0 := live_ne S.zero h1 (by simp)
        obtain ⟨b, cs, k1, k2, k3, k4, k5, k6⟩ := S.heap n _ h1
        obtain ⟨m1, m2, m3⟩ := toVals_ok S (H := heapC ms ts) (β0 := hereB (handL ms as) β) hz k5 h2 (fun m hm => hlook m (hl m hm))
        exact ⟨b, cs, by rw [hβs i n hn]; exact k1, k2, hcs i n _ _ hn h0 k3, k4, m1, m2⟩
    · obtain ⟨o, ho, hg⟩ := sh3 i r hi
      cases hg with
      | some h1 =>
        have h0 := live_ne S.zero h1 (by simp)
        exact rows h1 (hβg i _ ho) (fun g x hc => hcg i _ g x ho h0 hc)
      | nil =>
        have : hereB (handL ms as) β (nfC ms ts + i) = none := hβg i _ ho
        unfold rootRel
        rw [this]
  · intro g hg
    cases hc : col g with
    | none => exact absurd (hz g hc) hg
    | some p => exact (S.col g (by rw [hc]; simp)).2

theorem newC_rows : ∀ {l : List AV} {r : Root}, r ∈ newC l → ∃ e k xs, r = .rows e k xs
  | [], _, h => by cases h
  | v :: l, r, h => by
    cases v <;> simp only [newC] at h <;> first | exact newC_rows h | skip
    rcases List.mem_cons.1 h with rfl | h
    · exact ⟨_, _, _, rfl⟩
    · exact newC_rows h
theorem backQ_get : ∀ {l : List Nat} {i n : Nat}, l[i]? = some n → backQ l (i + 1) = n
  | [], i, n, h => by simp at h
  | a :: l, 0, n, h => by simp at h; exact h
  | a :: l, i + 1, n, h => backQ_get (l := l) (by simpa using h)
theorem newL_rows : ∀ {l : List AV} {r : Root}, r ∈ newL l → ∃ e k xs, r = .rows e k xs
  | [], _, h => by cases h
  | v :: l, r, h => by
    cases v <;> simp only [newL] at h <;> first | exact newL_rows h | skip
    · rcases List.mem_append.1 h with h | h
      · exact newC_rows h
      · exact newL_rows h
    · rcases List.mem_cons.1 h with rfl | h
      · exact ⟨_, _, _, rfl⟩
      · exact newL_rows h
theorem Shape.same {r r' : Root} (h : Shape r r') (hd : r' ≠ .dead) : rsz r' = rsz r ∧ rlen r' = rlen r ∧ ∀ e k xs, r = .rows e k xs → (∀ e k ys j, r' ≠ .hol e k ys j) → ∃ xs', r' = .rows e k xs' ∧ xs'.length = xs.length := by
  cases r with
  | dead => cases r' <;> first | exact absurd rfl hd | exact h.elim
  | rows e k xs =>
    cases r' with
    | dead => exact absurd rfl hd
    | rows e' k' ys => obtain ⟨rfl, rfl, h3⟩ := h; exact ⟨rfl, h3.symm, fun e k xs he _ => by cases he; exact ⟨ys, rfl, h3.symm⟩⟩
    | hol e' k' ys j => obtain ⟨rfl, rfl, h3⟩ := h; exact ⟨rfl, h3.symm, fun e k xs he hh => absurd rfl (hh _ _ _ _)⟩
    | box _ _ => exact h.elim
  | hol e k xs j =>
    cases r' with
    | dead => exact absurd rfl hd
    | rows e' k' ys => obtain ⟨rfl, rfl, h3⟩ := h; exact ⟨rfl, h3.symm, fun e k xs he _ => by cases he⟩
    | hol e' k' ys j => obtain ⟨rfl, rfl, h3⟩ := h; exact ⟨rfl, h3.symm, fun e k xs he _ => by cases he⟩
    | box _ _ => exact h.elim
  | box t vs =>
    cases r' with
    | dead => exact absurd rfl hd
    | rows _ _ _ => exact h.elim
    | hol _ _ _ _ => exact h.elim
    | box t' ws => obtain ⟨rfl, h2⟩ := h; exact ⟨h2.symm, rfl, fun e k xs he _ => by cases he⟩

/-- The callee's numbers in the caller's. -/
def backN (ns : List Nat) (len : Nat) (j : Nat) : Nat := if j = 0 then 0 else if j ≤ ns.length then ns.getD (j - 1) 0 else len + (j - (1 + ns.length))
noncomputable def backC (L : List (Option Nat)) (f : Nat → Nat) (size : Nat) (col col' : Col) : Col := fun g =>
  if size ≤ g ∨ ∃ (i n : Nat) (x : Bool), n ≠ 0 ∧ L[i]? = some (some n) ∧ col g = some (n, x) then
    (match col' g with | none => none | some (0, x) => some (0, x) | some (j + 1, x) => some (f (j + 1), x))
  else col g
def backB (len nf : Nat) (β β' : Bs) : Bs := fun n => if n < len then β n else β' (n - len + nf)

theorem subsE_or (h : List Root) : ∀ (ns : List Nat) (env : List (Nat × AV)) (t : Nat), lk (subsE h ns env) t = .undef ∨ (lk (subsE h ns env) t = lk env t ∧ ∀ n ∈ ns, flatR h n = true ∨
    noSub (lk env t) n)
  | [], env, t => .inr ⟨rfl, fun n hn => by cases hn⟩
  | n :: ns, env, t => by
    simp only [subsE]
    cases hf : flatR h n with
    | true =>
      rcases subsE_or h ns env t with e | ⟨e, hno⟩
      · exact .inl e
      · refine .inr ⟨e, fun m hm => ?_⟩
        rcases List.mem_cons.1 hm with rfl | hm
        · exact .inl hf
        · exact hno m hm
    | false =>
      show lk (subsE h ns (forgetS n env)) t = _ ∨ lk (subsE h ns (forgetS n env)) t = _ ∧ _
      rcases subsE_or h ns (forgetS n env) t with e | ⟨e, hno⟩
      · exact .inl e
      · rw [e]
        rw [lk_forgetS] at hno ⊢
        rcases forgetS1_or n (lk env t) with h1 | ⟨h1, h2⟩
        · exact .inl h1
        · rw [h1] at hno ⊢
          refine .inr ⟨rfl, fun m hm => ?_⟩
          rcases List.mem_cons.1 hm with rfl | hm
          · exact .inr h2
          · exact hno m hm
theorem kills_hol {n e : Nat} {k : Kind} {xs : List k.den} {j : Nat} : ∀ {ms : List Nat} {st : St}, n ∉ ms → getN st.heap n = some (.hol e k xs j) → getN (kills ms st).heap n = some (.hol e k xs j)
  | [], _, _, h => h
  | m :: ms, st, hn, h => kills_hol (ms := ms) (st := kill m st) (fun h => hn (List.mem_cons_of_mem _ h)) (by
    show getN (setN (forgetH m st.heap) m .dead) n = _
    rw [getN_set, if_neg (fun e => hn (by rw [e]; exact List.mem_cons_self)), getN_forget, h]; rfl)
theorem sees_all {v : AV} {p q F : Nat → Prop} : ∀ {ns : List Nat}, (∀ n ∈ ns, F n ∨ noSub v n) → sees p q v → sees p (fun m => q m ∧ ∀ n ∈ ns, ¬ F n → m ≠ n) v
  | [], _, h => sees_imp (fun _ h => h) (fun m h => ⟨h, fun n hn => by cases hn⟩) v h
  | n :: ns, hno, h => by
    have ih := sees_all (fun n hn => hno n (List.mem_cons_of_mem _ hn)) h
    rcases hno n List.mem_cons_self with hf | hf
    · refine sees_imp (fun _ h => h) (fun m hm => ⟨hm.1, fun n' hn' hF => ?_⟩) v ih
      rcases List.mem_cons.1 hn' with rfl | hn'
      · exact absurd hf hF
      · exact hm.2 n' hn' hF
    · refine sees_imp (fun _ h => h.1) (fun m hm => ⟨hm.1.1, fun n' hn' hF => ?_⟩) v (sees_and v ih hf)
      rcases List.mem_cons.1 hn' with rfl | hn'
      · exact hm.2
      · exact hm.1.2 n' hn' hF
theorem sees_no {h : List Root} {β : Bs} {col : Col} {w : World} {ns : List Nat} {p q : Nat → Prop} {v : AV} (hp : ∀ n r, getN h n = some r → r ≠ .dead → p n) (hq : ∀ n s, rowsOf h n = some s → n ∉ ns → q n)
    (hno : ∀ n ∈ ns, (∀ s, rowsOf h n = some s → ∀ i c y, subAt s.k (getAt s.k.dflt s.xs i) c = some y → False) ∨ noSub v n) (x : Value) (hv : vrel h β col w v x) : sees p q v := by
  have h1 := sees_of (p := p) (q := fun n => ∃ s i c y, rowsOf h n = some s ∧ subAt s.k (getAt s.k.dflt s.xs i) c = some y) hp (fun n s i c y hs hy => ⟨s, i, c, y, hs, hy⟩) v x hv
  refine sees_imp (fun _ h => h) (fun m hm => ?_) v (sees_all hno h1)
  obtain ⟨⟨s, i, c, y, hs, hy⟩, hm2⟩ := hm
  refine hq m s hs fun hmn => ?_
  by_cases hF : ∀ s, rowsOf h m = some s → ∀ i c y, subAt s.k (getAt s.k.dflt s.xs i) c = some y → False
  · exact hF s hs i c y hy
  · exact hm2 m hmn hF rfl

theorem call_out (S : Sat own0 w0 st a w β col) {z : Bool} (ht : tsOf P st.heap ms tys as = some ts)
    (hnd : (nsOf ms as ++ somes (gsOf ms as)).Nodup) (hz : z = isE (looksOf st.heap ms as))
    {outs : List Root} {ret : List AV} {β' : Bs} {col' : Col} {w' : World} {v : Value}
    (M : Mem (ownOf (heapC ms ts) (nfC ms ts) (hereB (handL ms as) β) (hereC (handL ms as) z col)) w (.dead :: (outs ++ newL ret)) (nfC ms ts) β' col' w')
    (hlen : outs.length + 1 = nfC ms ts) (hres : vrel (.dead :: (outs ++ newL ret)) β' col' w' (packR (seatL id (nfC ms ts) ret).1) v)
    (hret : ret.all (resA z (lenN (nsOf ms as))) = true) (hout : outs.all (outR z) = true) {h1 : List Root} (hput : putOuts (kills (somes (gsOf ms as)) st).heap (nsOf ms as) outs = some h1) :
    ∃ β2 col2, Sat own0 w0 { kills (somes (gsOf ms as)) st with env := subsE (kills (somes (gsOf ms as)) st).heap (nsOf ms as) (kills (somes (gsOf ms as)) st).env, heap := h1 ++ newL ret } a w' β2 col2 ∧ vrel (h1 ++ newL ret) β2 col2 w' (packR (seatL (backQ (nsOf ms as)) (lenN h1) ret).1) v ∧
      Kept (nsOf ms as) (somes (gsOf ms as)) st.heap (h1 ++ newL ret) w w' col col2 β β2 := by
  have hsm : (somes (handL ms as)).Nodup := by rw [handL_somes]; exact hnd
  obtain ⟨sh1, sh2, sh3, sh4⟩ := shapes ht
  have S1 := S.kills (somes (gsOf ms as))
  generalize hst1 : kills (somes (gsOf ms as)) st = st1 at *
  have hlen1 : st1.heap.length = st.heap.length := by rw [← hst1, kills_len]
  obtain ⟨hnn, hgn, hdis⟩ := List.nodup_append.1 hnd
  -- the roots that stay
  have stay : ∀ (i n : Nat), (nsOf ms as)[i]? = some n → ∃ r0 r1, getN (heapC ms ts) (1 + i) = some r0 ∧ getN st1.heap n = some r1 ∧ Shape r1 r0 ∧ r1 ≠ .dead ∧ n ≠ 0 := by
    intro i n hn
    have hlt := (List.getElem?_eq_some_iff.1 hn).1
    have hr := List.getElem?_eq_getElem (l := stayR ms ts) (i := i) (by omega)
    obtain ⟨n', l, hn', hst, _⟩ := sh1 i _ hr
    rw [hn] at hn'; cases hn'
    have hng : n ∉ somes (gsOf ms as) := fun hm => hdis n (List.mem_of_getElem? hn) n hm rfl
    have hheap := heapC_stay hr
    generalize (stayR ms ts)[i]'(by omega) = r at *
    cases hst with
    | rows q1 =>
      refine ⟨_, _, hheap, rowOf_get (by rw [← hst1]; exact kills_get hng (rowOf_of q1)), Shape.refl _, by simp, live_ne S.zero q1 (by simp)⟩
    | box q1 q2 =>
      obtain ⟨vs', q3, q4⟩ := kills_box' hng q1
      rw [hst1] at q3
      obtain ⟨b, cs, k1, k2, k3, k4, k5, k6⟩ := S.heap n _ q1
      obtain ⟨_, _, m3⟩ := toVals_ok S (H := []) (β0 := β) (col0 := fun _ => none) (fun _ _ => rfl) k5 q2 (fun _ _ _ _ _ => rfl)
      exact ⟨_, _, hheap, q3, ⟨rfl, by rw [q4, m3]⟩, by simp, live_ne S.zero q1 (by simp)⟩
  obtain ⟨p1, p2, p3, p4⟩ := putOuts_ok hput hnn (fun n hn => by
    obtain ⟨i, hi⟩ := List.mem_iff_getElem?.1 hn
    obtain ⟨_, _, _, h, _⟩ := stay i n hi
    exact getN_lt h)
  have hnf : nfC ms ts = 1 + (nsOf ms as).length := by rw [nfC, sh2]
  have hLlen : lenN h1 = h1.length := lenN_eq _
  -- the numbers
  let β2 := backB h1.length (nfC ms ts) β β'
  let col2 := backC (handL ms as) (backN (nsOf ms as) h1.length) w.heap.size col col'
  have hβlt : ∀ n, n < h1.length → β2 n = β n := fun n hn => if_pos hn
  have hβstay : ∀ (i n : Nat), (nsOf ms as)[i]? = some n → β' (1 + i) = β n := by
    intro i n hn
    obtain ⟨r0, r1, q1, q2, _⟩ := stay i n hn
    have hlt := (List.getElem?_eq_some_iff.1 hn).1
    have := M.fix (1 + i) (hereB (handL ms as) β (1 + i)) r0 (by
      show (if 1 + i < nfC ms ts then _ else none) = _
      rw [if_pos (by omega), q1]; rfl)
    rw [this.2.1, Nat.add_comm 1 i]
    simp only [hereB, handL_stay hn]; rfl
  have old : ∀ g, g < w.heap.size → (¬ ∃ (i n : Nat) (x : Bool), n ≠ 0 ∧ (handL ms as)[i]? = some (some n) ∧ col g = some (n, x)) → col2 g = col g ∧ w'.heap[g]? = w.heap[g]? := by
    intro g hg hn
    refine ⟨if_neg (fun h => h.elim (fun h => by omega) hn), M.fr.block g hg fun h => ?_⟩
    have h : (match hereC (handL ms as) z col g with | none => 0 | some (0, _) => 2 | some (_ + 1, _) => 1) = 1 := h
    split at h
    · cases h
    · cases h
    · rename_i j x hc
      obtain ⟨n, h0, hL, hcg⟩ := hereC_at hc
      exact hn ⟨j, n, x, h0, hL, hcg⟩
  have new : ∀ g, (w.heap.size ≤ g ∨ ∃ (i n : Nat) (x : Bool), n ≠ 0 ∧ (handL ms as)[i]? = some (some n) ∧ col g = some (n, x)) →
      col2 g = (match col' g with | none => none | some (0, x) => some (0, x) | some (j + 1, x) => some (backN (nsOf ms as) h1.length (j + 1), x)) := fun g h => if_pos h
  -- a block that the callee holds for one of its roots
  have mine : ∀ g j x, col' g = some (j + 1, x) → col2 g = some (backN (nsOf ms as) h1.length (j + 1), x) := by
    intro g j x hc
    rw [new g, hc]
    obtain ⟨h, _⟩ := M.col g (by rw [hc]; simp)
    rcases h with ⟨y, h⟩ | h | h
    · rw [hc] at h; cases h
    · exact .inl h
    · have h : (match hereC (handL ms as) z col g with | none => 0 | some (0, _) => 2 | some (_ + 1, _) => 1) = 1 := h
      split at h
      · cases h
      · cases h
      · rename_i i y hc'
        obtain ⟨n, h0, hL, hcg⟩ := hereC_at hc'
        exact .inr ⟨i, n, y, h0, hL, hcg⟩
  have hzz : z = true → ∀ g, col' g = none → col2 g = none := by
    intro hz1 g hc
    by_cases h : w.heap.size ≤ g ∨ ∃ (i n : Nat) (x : Bool), n ≠ 0 ∧ (handL ms as)[i]? = some (some n) ∧ col g = some (n, x)
    · rw [new g h, hc]
    · rw [not_or] at h
      have hg : g < w.heap.size := by omega
      rw [(old g hg h.2).1]
      have hown : (match hereC (handL ms as) z col g with | none => 0 | some (0, _) => 2 | some (_ + 1, _) => 1) = 0 := M.zon g hg hc
      split at hown
      · rename_i hc'
        rcases hereC_free hsm hc' with h | ⟨h, _⟩
        · exact h
        · rw [hz1] at h; cases h
      · cases hown
      · cases hown
  have memL : ∀ n, n ∈ somes (handL ms as) ↔ n ∈ nsOf ms as ∨ n ∈ somes (gsOf ms as) := fun n => by rw [handL_somes, List.mem_append]
  -- what lies where
  have hlo : ∀ n, n < h1.length → getN (h1 ++ newL ret) n = getN h1 n := fun n hn => by rw [getN_eq, getN_eq, List.getElem?_append_left hn]
  have hns : ∀ (i n : Nat), (nsOf ms as)[i]? = some n → backN (nsOf ms as) h1.length (i + 1) = n ∧ n < h1.length := fun i n hn => by
    obtain ⟨r0, r1, _, q2, _⟩ := stay i n hn
    have hlt := (List.getElem?_eq_some_iff.1 hn).1
    refine ⟨?_, by rw [p1]; exact getN_lt q2⟩
    unfold backN
    rw [if_neg (by omega), if_pos (by omega), List.getD_eq_getElem?_getD, Nat.add_sub_cancel, hn]; rfl
  have hnew : ∀ i, backN (nsOf ms as) h1.length ((nsOf ms as).length + i + 1) = h1.length + i := fun i => by
    unfold backN
    rw [if_neg (by omega), if_neg (by omega)]; omega
  have hget : ∀ j r, getN (.dead :: (outs ++ newL ret)) (j + 1) = some r → getN (h1 ++ newL ret) (backN (nsOf ms as) h1.length (j + 1)) = some r ∧ β2 (backN (nsOf ms as) h1.length (j + 1)) = β' (j + 1) ∧
      (∀ t vs, r = .box t vs → r ∈ outs) := by
    intro j r hr
    rw [getN_cons, getN_eq] at hr
    rcases Nat.lt_or_ge j outs.length with hlt | hge
    · rw [List.getElem?_append_left hlt] at hr
      have hn := List.getElem?_eq_getElem (l := nsOf ms as) (i := j) (by omega)
      obtain ⟨e1, e2⟩ := hns j _ hn
      rw [e1, hlo _ e2, (p3 j _ hn).1]
      exact ⟨hr, by rw [hβlt _ e2, ← hβstay j _ hn, Nat.add_comm], fun _ _ _ => List.mem_of_getElem? hr⟩
    · rw [List.getElem?_append_right hge] at hr
      obtain ⟨i, rfl⟩ : ∃ i, j = (nsOf ms as).length + i := ⟨j - (nsOf ms as).length, by omega⟩
      rw [show (nsOf ms as).length + i - outs.length = i by omega] at hr
      rw [hnew i]
      refine ⟨by rw [getN_eq, List.getElem?_append_right (by omega), show h1.length + i - h1.length = i by omega]; exact hr, ?_, fun t vs e => ?_⟩
      · show backB h1.length (nfC ms ts) β β' (h1.length + i) = _
        unfold backB
        rw [if_neg (by omega)]
        congr 1; omega
      · obtain ⟨e', k, xs, h⟩ := newL_rows (List.mem_of_getElem? hr)
        rw [h] at e; cases e
  have hroot : ∀ j r, getN (.dead :: (outs ++ newL ret)) (j + 1) = some r → rootRel (h1 ++ newL ret) β2 col2 w' (backN (nsOf ms as) h1.length (j + 1)) r := by
    intro j r hr
    obtain ⟨_, eb, eo⟩ := hget j r hr
    have hR := M.heap _ _ hr
    cases r with
    | dead => trivial
    | rows e k xs =>
      unfold rootRel at hR ⊢
      rw [eb]
      cases hβ : β' (j + 1) with
      | none => rw [hβ] at hR; exact hR
      | some b =>
        rw [hβ] at hR
        obtain ⟨cs, fz, k1, k2, k3, k4, k5, k6, k7⟩ := hR
        exact ⟨cs, fz, mine _ _ _ k1, k2, k3, k4, k5, fun i hi => rep_mono (fun g o hg hw => ⟨mine _ _ _ hg, hw⟩) (k6 i hi), owns_mono (fun g o hg hw => ⟨mine _ _ _ hg, hw⟩) k7⟩
    | hol e k xs j' =>
      obtain ⟨b, cs, fz, k0, k1, k2, k3, k4, k5, k6, k7, k8, k9⟩ := hR
      exact ⟨b, cs, fz, by rw [eb]; exact k0, mine _ _ _ k1, k2, k3, k4, k5, k6, k7, fun i hi hij => ⟨rep_mono (fun g o hg hw => ⟨mine _ _ _ hg, hw⟩) (k8 i hi hij).1, inK_mono (fun g o hg hw => ⟨mine _ _ _ hg, hw⟩) (k8 i hi hij).2⟩, k9⟩
    | box t vs =>
      obtain ⟨b, cs, k1, k2, k3, k4, k5, k6⟩ := hR
      have hb : vs.all (boxV z) = true := by
        rw [List.all_eq_true] at hout
        exact hout _ (eo t vs rfl)
      exact ⟨b, cs, by rw [eb]; exact k1, k2, mine _ _ _ k3, k4, boxVs_ok hzz hb k5, k6⟩
  -- what the caller has, as it was or as it came back
  have alive : ∀ n r, getN st1.heap n = some r → r ≠ .dead → n ∉ somes (gsOf ms as) := fun n r hr hd hm => by
    have := kills_dead (st := st) (ms := somes (gsOf ms as)) (n := n) (.inr ⟨hm, by rw [← hlen1]; exact getN_lt hr⟩)
    rw [hst1, hr] at this
    cases this; exact hd rfl
  have outOf : ∀ (i n : Nat), (nsOf ms as)[i]? = some n → ∃ r1 r', getN st1.heap n = some r1 ∧ getN (h1 ++ newL ret) n = some r' ∧ Shape r1 r' ∧ r' ≠ .dead ∧ ∀ e k ys j, r' ≠ .hol e k ys j := by
    intro i n hn
    obtain ⟨r0, r1, q1, q2, q3, q4, _⟩ := stay i n hn
    have hlt := (List.getElem?_eq_some_iff.1 hn).1
    obtain ⟨_, _, r', q5, q6⟩ := M.fix (1 + i) (hereB (handL ms as) β (1 + i)) r0 (by
      show (if 1 + i < nfC ms ts then _ else none) = _
      rw [if_pos (by omega), q1]; rfl)
    rw [Nat.add_comm 1 i] at q5
    obtain ⟨e1, _⟩ := hget i r' q5
    rw [(hns i n hn).1] at e1
    have h3 := (p3 i n hn).2
    rw [← (p3 i n hn).1, ← hlo n (hns i n hn).2, e1] at h3
    exact ⟨r1, r', q2, e1, q3.trans q6, fun hd => h3.1 (by rw [hd]), fun e k ys j hd => h3.2 e k ys j (by rw [hd])⟩
  have far : ∀ n, n ∉ nsOf ms as → n < h1.length → getN (h1 ++ newL ret) n = getN st1.heap n := fun n hn hlt => by rw [hlo n hlt, p4 n hn]
  have untouched : ∀ n, n ∉ nsOf ms as → n ∉ somes (gsOf ms as) → ∀ g b, col g = some (n, b) → col2 g = col g ∧ w'.heap[g]? = w.heap[g]? := by
    intro n hn hg g b hc
    refine old g (S1.col g (by rw [hc]; simp)).2 ?_
    rintro ⟨i, m, x, _, hL, hm⟩
    rw [hc] at hm; cases hm
    rcases (memL n).1 (somes_mem.2 ⟨i, hL⟩) with h | h
    · exact hn h
    · exact hg h
  have same : ∀ n r, n ∉ nsOf ms as → getN st1.heap n = some r → r ≠ .dead → Same st1.heap (h1 ++ newL ret) β β2 col col2 w w' n := fun n r hn hr hd =>
    ⟨far n hn (by rw [p1]; exact getN_lt hr), hβlt n (by rw [p1]; exact getN_lt hr), fun g o hg hw => by
      obtain ⟨b, hb⟩ := hg
      obtain ⟨e1, e2⟩ := untouched n hn (alive n r hr hd) g b hb
      exact ⟨e1, by rw [e2]; exact hw⟩⟩
  have weak : ∀ n, (∃ r, getN st1.heap n = some r ∧ r ≠ .dead) → Weak st1.heap (h1 ++ newL ret) β β2 n := by
    rintro n ⟨r, hr, hd⟩
    by_cases hn : n ∈ nsOf ms as
    · obtain ⟨i, hi⟩ := List.mem_iff_getElem?.1 hn
      obtain ⟨r1, r', e1, e2, e3, e4, _⟩ := outOf i n hi
      obtain ⟨s1, s2, s3⟩ := e3.same e4
      refine ⟨hβlt n (by rw [p1]; exact getN_lt hr), fun r2 hr2 => ?_⟩
      · rw [e1] at hr2; cases hr2
        exact ⟨r', e2, s1, s2⟩
    · exact (same n r hn hr hd).weak
  have zk : Zk col col2 w w' := ⟨fun g o hg hw => by
    obtain ⟨e1, e2⟩ := old g (Array.getElem?_eq_some_iff.1 hw).1 (by rintro ⟨i, n, x, _, _, h⟩; rw [show col g = none from hg] at h; cases h)
    exact ⟨by show col2 g = none; rw [e1]; exact hg, by rw [e2]; exact hw⟩⟩
  have sameQ : ∀ n, (n ∉ nsOf ms as ∧ ∃ s, rowsOf st1.heap n = some s) → Same st1.heap (h1 ++ newL ret) β β2 col col2 w w' n := fun n ⟨hn, s, hs⟩ => same n _ hn (rowOf_get hs) (by simp)
  refine ⟨β2, col2, S1.move (p := fun n => ∃ r, getN st1.heap n = some r ∧ r ≠ .dead) (q := fun n => n ∉ nsOf ms as ∧ ∃ s, rowsOf st1.heap n = some s) zk weak sameQ (fun t => ?_) ?_ ?_ ?_ ?_ ?_ ?_, ?_, ?_⟩
  case refine_9 =>
    have hgiv : ∀ n r, n ∈ somes (gsOf ms as) → getN st.heap n = some r → ∃ e k xs, r = .rows e k xs := fun n r hg hr => by
      obtain ⟨i, hi⟩ := somes_mem.1 hg
      have hlt := (List.getElem?_eq_some_iff.1 hi).1
      have hgi := List.getElem?_eq_getElem (l := giveR ms ts) (i := i) (by omega)
      obtain ⟨o, ho, hgv⟩ := sh3 i _ hgi
      rw [hi] at ho; cases ho
      generalize (giveR ms ts)[i]'(by omega) = r' at hgv
      cases hgv with
      | some h1 => rw [hr] at h1; cases h1; exact ⟨_, _, _, rfl⟩
    refine ⟨fun g hg hn => old g hg ?_, fun n hn => hβlt n (by rw [p1, hlen1]; exact hn), fun n r hr hd hg => ?_, fun n s hs hg => ?_, M.fr.size, by rw [List.length_append, p1, hlen1]; omega, hgiv, fun n t vs hr hn => ?_, fun n hr => ?_, fun n h1 h2 => hdis n h1 n h2 rfl, fun n s hs hn hg => ?_⟩
    · rintro ⟨i, n, x, h0, hL, hc⟩
      exact hn n x h0 ((memL n).1 (somes_mem.2 ⟨i, hL⟩)) hc
    · have hk : ∃ r1, getN st1.heap n = some r1 ∧ r1 ≠ .dead ∧ rsz r1 = rsz r ∧ rlen r1 = rlen r := by
        cases r with
        | dead => exact absurd rfl hd
        | rows e k xs => exact ⟨_, rowOf_get (by rw [← hst1]; exact kills_get hg (rowOf_of hr)), by simp, rfl, rfl⟩
        | hol e k xs j => exact ⟨_, by rw [← hst1]; exact kills_hol hg hr, by simp, rfl, rfl⟩
        | box t vs =>
          obtain ⟨vs', q3, q4⟩ := kills_box' hg hr
          rw [hst1] at q3
          exact ⟨_, q3, by simp, by simp [rsz, q4], rfl⟩
      obtain ⟨r1, q1, q2, q3, q4⟩ := hk
      have hw := weak n ⟨r1, q1, q2⟩
      refine ⟨hw.base, fun r' hr' => ?_⟩
      rw [hr] at hr'; cases hr'
      obtain ⟨r2, t1, t2, t3⟩ := hw.ptr r1 q1
      exact ⟨r2, t1, by rw [t2, q3], by rw [t3, q4]⟩
    · have h1' : rowsOf st1.heap n = some s := by rw [← hst1]; exact kills_get hg hs
      by_cases hn : n ∈ nsOf ms as
      · obtain ⟨i, hi⟩ := List.mem_iff_getElem?.1 hn
        obtain ⟨r1, r', e1, e2, e3, e4, e5⟩ := outOf i n hi
        rw [rowOf_get h1'] at e1; cases e1
        obtain ⟨xs', rfl, hl⟩ := (e3.same e4).2.2 _ _ _ rfl e5
        exact ⟨xs', rowOf_of e2, hl⟩
      · exact ⟨s.xs, rowOf_of (by rw [far n hn (by rw [p1]; exact getN_lt (rowOf_get h1'))]; exact rowOf_get h1'), rfl⟩
    · have hg : n ∉ somes (gsOf ms as) := fun hg => by obtain ⟨_, _, _, h⟩ := hgiv n _ hg hr; cases h
      obtain ⟨vs', q3, q4⟩ := kills_box' hg hr
      rw [hst1] at q3
      exact ⟨vs', by rw [far n hn (by rw [p1]; exact getN_lt q3)]; exact q3, q4⟩
    · have hd : getN st1.heap n = some .dead := by rw [← hst1]; exact kills_dead (.inl hr)
      rw [far n (fun hm => ?_) (by rw [p1]; exact getN_lt hd)]
      · exact hd
      · obtain ⟨i, hi⟩ := List.mem_iff_getElem?.1 hm
        obtain ⟨r1, _, e1, _, e3, e4⟩ := stay i n hi
        obtain ⟨r0, r1, _, e2, _, e4, _⟩ := stay i n hi
        rw [hd] at e2; cases e2; exact e4 rfl
    · have h1 : rowsOf st1.heap n = some s := by rw [← hst1]; exact kills_get hg hs
      exact rowOf_of (by rw [far n hn (by rw [p1]; exact getN_lt (rowOf_get h1))]; exact rowOf_get h1)
  · rcases subsE_or st1.heap (nsOf ms as) st1.env t with e | ⟨e, hno⟩
    · exact .inl e
    · refine .inr ⟨e, sees_no (fun n r hr hd => ⟨r, hr, hd⟩) (fun n s hs hn => ⟨hn, s, hs⟩) ?_ _ (S1.env t)⟩
      intro n hn
      refine (hno n hn).imp (fun hf s hs i c y hy => ?_) id
      unfold flatR at hf
      rw [rowOf_get hs] at hf
      rw [subAt_flat _ _ _ hf] at hy
      cases hy
  · intro n r hr
    by_cases hlt : n < h1.length
    · by_cases hn : n ∈ nsOf ms as
      · obtain ⟨i, hi⟩ := List.mem_iff_getElem?.1 hn
        have e := (hns i n hi).1
        have hl := (List.getElem?_eq_some_iff.1 hi).1
        have hr' : getN (.dead :: (outs ++ newL ret)) (i + 1) = some r := by
          rw [getN_cons, getN_eq, List.getElem?_append_left (by omega), ← (p3 i n hi).1, ← hlo n hlt]; exact hr
        have := hroot i r hr'
        rwa [e] at this
      · rw [far n hn hlt] at hr
        by_cases hd : r = .dead
        · subst hd; trivial
        · refine rootRel_keep zk weak sameQ S1.heap (same n r hn hr hd) r (fun t vs e => ?_) (S1.heap n r hr)
          subst e
          obtain ⟨b, cs, _, _, _, _, h5, h6⟩ := S1.heap n _ hr
          exact cells_sees (fun n r hr hd => ⟨r, hr, hd⟩) h6 h5
    · obtain ⟨i, rfl⟩ : ∃ i, n = h1.length + i := ⟨n - h1.length, by omega⟩
      have hr' : getN (.dead :: (outs ++ newL ret)) ((nsOf ms as).length + i + 1) = some r := by
        rw [getN_eq, List.getElem?_append_right (by omega), show h1.length + i - h1.length = i by omega] at hr
        rw [getN_cons, getN_eq, List.getElem?_append_right (by omega), show (nsOf ms as).length + i - outs.length = i by omega]; exact hr
      have := hroot _ r hr'
      rwa [hnew i] at this
  · refine ⟨M.fr.os.trans S.fr.os, M.fr.tape.trans S.fr.tape, M.fr.output.trans S.fr.output, Nat.le_trans S.fr.size M.fr.size, fun b hb hn => ?_⟩
    rw [(old b (by have := S.fr.size; omega) ?_).2]
    · exact S.fr.block b hb hn
    · rintro ⟨i, m, x, h0, _, hc⟩
      rcases (S.col b (by rw [hc]; simp)).1 with ⟨y, h⟩ | h | h
      · rw [hc] at h; cases h; exact h0 rfl
      · omega
      · exact hn h
  · intro b hb
    by_cases h : w.heap.size ≤ b ∨ ∃ (i n : Nat) (x : Bool), n ≠ 0 ∧ (handL ms as)[i]? = some (some n) ∧ col b = some (n, x)
    · have hc' : col' b ≠ none := fun e => hb (by rw [new b h, e])
      refine ⟨?_, (M.col b hc').2⟩
      rcases h with h | ⟨i, n, x, h0, _, hc⟩
      · exact .inr (.inl (Nat.le_trans S.fr.size h))
      · exact .inr ((S.col b (by rw [hc]; simp)).1.resolve_left (fun ⟨y, h⟩ => by rw [hc] at h; cases h; exact h0 rfl))
    · rw [not_or] at h
      have e := (old b (by omega) h.2).1
      rw [e] at hb ⊢
      obtain ⟨a1, a2⟩ := S.col b hb
      exact ⟨a1, Nat.lt_of_lt_of_le a2 M.fr.size⟩
  · have h0 : 0 ∉ nsOf ms as := fun hm => by
      obtain ⟨i, hi⟩ := List.mem_iff_getElem?.1 hm
      obtain ⟨_, _, _, _, _, _, h⟩ := stay i 0 hi
      exact h rfl
    rw [far 0 h0 (by rw [p1]; exact getN_lt S1.zero)]
    exact S1.zero
  · intro g hg hc
    by_cases h : ∃ (i n : Nat) (x : Bool), n ≠ 0 ∧ (handL ms as)[i]? = some (some n) ∧ col g = some (n, x)
    · exfalso
      have hg' : g < w.heap.size := by have := S.fr.size; omega
      have hcn : col' g = none := by
        rw [new g (.inr h)] at hc
        cases hx : col' g with
        | none => rfl
        | some p => obtain ⟨j, x⟩ := p; rw [hx] at hc; cases j <;> cases hc
      have hown : (match hereC (handL ms as) z col g with | none => 0 | some (0, _) => 2 | some (_ + 1, _) => 1) = 0 := M.zon g hg' hcn
      obtain ⟨i, n, x, h0, hL, hcg⟩ := h
      rw [hereC_of hsm hL h0 hcg] at hown
      cases hown
    · rw [(old g (by have := S.fr.size; omega) h).1] at hc; exact hc
  · intro n r _ hr
    have hlt : n < h1.length := by rw [p1]; exact getN_lt hr
    refine ⟨hβlt n hlt, ?_⟩
    by_cases hn : n ∈ nsOf ms as
    · obtain ⟨i, hi⟩ := List.mem_iff_getElem?.1 hn
      obtain ⟨r1, r', e1, e2, e3, _, _⟩ := outOf i n hi
      rw [hr] at e1; cases e1
      exact ⟨r', e2, e3⟩
    · exact ⟨r, by rw [far n hn hlt]; exact hr, Shape.refl r⟩
  · refine pack_ok hzz (fun n hn1 hn2 x hx => ?_) hret (fun i hi x hx => ?_) hres
    · obtain ⟨s, hs, h0, hx⟩ := hx
      obtain ⟨j, rfl⟩ : ∃ j, n = j + 1 := ⟨n - 1, by omega⟩
      rw [lenN_eq] at hn2
      obtain ⟨e1, e2, _⟩ := hget j _ hs
      have hn := List.getElem?_eq_getElem (l := nsOf ms as) (i := j) (by omega)
      obtain ⟨e3, _⟩ := hns j _ hn
      rw [e3] at e1 e2
      rw [backQ_get hn]
      exact ⟨s, e1, h0, by rw [e2]; exact hx⟩
    obtain ⟨s, hs, h0, hx⟩ := hx
    have e : nfC ms ts + i = (nsOf ms as).length + i + 1 := by omega
    rw [e] at hs hx
    obtain ⟨e1, e2, _⟩ := hget _ _ hs
    rw [hnew i] at e1 e2
    rw [hLlen]
    exact ⟨s, e1, h0, by rw [e2]; exact hx⟩
end
end Go.Proofs.YtlkbmcmglkdciaaE
