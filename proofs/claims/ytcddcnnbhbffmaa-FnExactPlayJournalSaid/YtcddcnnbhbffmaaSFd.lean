/- One round of the loop. No condition. -/
import Derived.Test.YtcddcnnbhbffmaaSFc
import Derived.Test.YtcddcnnbhbffmaaSFa
import Derived.RangeFuncFrom
import Derived.RangeFuncWrites
set_option linter.unusedVariables false
namespace Go.Proofs.Ytcddcnnbhbffmaa
open Go.RowKit Go.Proofs.YtcddcnnbhbffmaaE
def SfI (n₀ B b cap Bs Bn : Nat) (bl : List Int) (w0 : World) (pre : List (Fin 6)) (W : World) : Prop :=
  ∃ (v : Value) (br : Option Base), W.heap[B]? = some (.cells #[v] 22 (0, 0)) ∧ (∃ bs fz, W.heap[b]? = some (.cells bs 5 fz) ∧ bs.size = cap ∧ unfrozen bs.size fz ∧ ∀ i, ∀ h : i < bl.length, seg bs i 1 = [.int .u8 bl[i]]) ∧ slAt br 1 0 pre.length v ∧
    (match br with
      | none => pre = []
      | some g => (n₀ ≤ g.g ∧ g.g ≠ Bs ∧ g.g ≠ Bn) ∧ ∃ cs fz, W.heap[g.g]? = some (.cells cs 3 fz) ∧ cs.size = g.S ∧ unfrozen cs.size fz ∧ g.o + pre.length ≤ cs.size ∧ ∀ i, ∀ h : i < pre.length, seg cs (g.o + i) 1 = [.int .i64 (sfVal bl (pre[i]).val)]) ∧ Below n₀ w0 W ∧ Bs < W.heap.size ∧ Bn < W.heap.size
/-- The colours of the three blocks. -/
def sfCol (B b : Nat) (br : Option Base) : Col := fun g => if g = B then some (1, true) else if g = b then some (2, true) else match br with | some r => if g = r.g then some (3, true) else none | none => none
def sfBs (B b cap : Nat) (br : Option Base) : Bs := fun n => if n = 1 then some ⟨B, 0, 1⟩ else if n = 2 then some ⟨b, 0, cap⟩ else if n = 3 then br else none
noncomputable def sfOwn (B b cap : Nat) (br : Option Base) (bl : List Int) : YtcddcnnbhbffmaaE.Own := ⟨fun g => if sfCol B b br g = none then 0 else 1, fun n => if n = 1 then some (some ⟨B, 0, 1⟩, .box 22 [.ref 3]) else if n = 2 then some (some ⟨b, 0, cap⟩, .rows 5 (.int .u8) bl) else none⟩
theorem sf_body (F : Fence) (n l : Nat) {n₀ B b cap Bs Bn : Nat} {bl : List Int} {w0 W : World} (hsB : Bs ≠ B ∧ Bs ≠ b ∧ Bn ≠ B ∧ Bn ≠ b) (hnB : n₀ ≤ B) (hnb : n₀ ≤ b) (hn₀ : n₀ ≤ w0.heap.size) (hc12 : 12 ≤ cap) (hbl : bl.length = 12)
    {pre : List (Fin 6)} {x : Fin 6} (hpre : pre.length < 6) {tmps : Array Value} (htm : tmps.size = 48) (h4 : tmps.getD 4 undef = .pointer (some ⟨B, 0, none⟩)) (h5 : tmps.getD 5 undef = .slice (some ⟨b, 2 * x.val, none⟩) 2 2)
    (hI : SfI n₀ B b cap Bs Bn bl w0 pre W) :
    (codeBody (Try.f21.body.getD .skip)).wpIn (F.inRound l) n Try.prog (ownPostK (Kp2 Bs Bn) (SfI n₀ B b cap Bs Bn bl w0) (fun _ _ _ => False) (pre ++ [x]) W) { tmps, defers := [] } W := by
  obtain ⟨v, br, hB, ⟨bs, fzb, hb, hcap, hfzb, hbs⟩, hv, hr, hbel, hsz1, hsz2⟩ := hI
  have hx := x.2
  have hBlt := (Array.getElem?_eq_some_iff.1 hB).1
  have hblt := (Array.getElem?_eq_some_iff.1 hb).1
  have hBb : B ≠ b := by rintro rfl; rw [hB] at hb; cases hb
  have hrB : ∀ r, br = some r → r.g ≠ B ∧ r.g ≠ b ∧ r.g < W.heap.size ∧ n₀ ≤ r.g ∧ r.g ≠ Bs ∧ r.g ≠ Bn := by
    rintro r rfl
    obtain ⟨h0, cs, fz, h1, _⟩ := hr
    refine ⟨?_, ?_, (Array.getElem?_eq_some_iff.1 h1).1, h0⟩
    · intro e; rw [e, hB] at h1; cases h1
    · intro e; rw [e, hb] at h1; cases h1
  have cB : sfCol B b br B = some (1, true) := by simp [sfCol]
  have cb : sfCol B b br b = some (2, true) := by simp [sfCol, Ne.symm hBb]
  have cr : ∀ r, br = some r → sfCol B b br r.g = some (3, true) := by
    rintro r rfl
    obtain ⟨h1, h2, _⟩ := hrB r rfl
    simp [sfCol, h1, h2]
  have cn0 : ∀ g, sfCol B b br g ≠ none → g < W.heap.size ∧ (n₀ ≤ g ∧ g ≠ Bs ∧ g ≠ Bn) ∧ ∃ cs e fz, W.heap[g]? = some (.cells cs e fz) := by
    intro g hg
    unfold sfCol at hg
    split at hg
    · rename_i e; subst e; exact ⟨hBlt, ⟨hnB, Ne.symm hsB.1, Ne.symm hsB.2.2.1⟩, _, _, _, hB⟩
    · split at hg
      · rename_i e; subst e; exact ⟨hblt, ⟨hnb, Ne.symm hsB.2.1, Ne.symm hsB.2.2.2⟩, _, _, _, hb⟩
      · split at hg
        · rename_i r
          split at hg
          · rename_i e; subst e
            obtain ⟨_, _, h3, h4⟩ := hrB r rfl
            obtain ⟨_, cs, fz, h1, _⟩ := hr
            exact ⟨h3, h4, _, _, _, h1⟩
          · exact absurd rfl hg
        · exact absurd rfl hg
  have S : Sat (sfOwn B b cap br bl) W (sfSt bl (pre.map fun k => sfVal bl k.val) x.val) { tmps, defers := [] } W (sfBs B b cap br) (sfCol B b br) := by
    refine ⟨fun t => ?_, fun m r hm => ?_, htm, rfl, ⟨rfl, rfl, rfl, Nat.le_refl _, fun _ _ _ => rfl⟩, fun g hg => ⟨.inr (.inr ?_), (cn0 g hg).1⟩, rfl, fun g _ hc => ?_, fun m bb r h => ?_⟩
    · show vrel _ _ _ _ (lk [(4, AV.ptr 1 0 0), (5, AV.win 2 (2 * x.val) 2)] t) _
      rw [lk_cons, lk_cons]
      split
      · rename_i e; subst e
        exact ⟨_, ⟨B, 0, 1⟩, rfl, rfl, by show tmps.getD 4 undef = _; rw [h4]; rfl, by show 0 < 1; omega⟩
      · split
        · rename_i e; subst e
          refine ⟨_, rfl, by show 2 * x.val + 2 ≤ bl.length; omega, some ⟨b, 2 * x.val, none⟩, 2, h5, Nat.le_refl _, .inr ?_, ?_⟩
          · show some (⟨b, 2 * x.val, none⟩ : Addr) = some ⟨b, 0 + 2 * x.val * 1, none⟩
            simp
          · show 0 + 2 * x.val * 1 + 2 * 1 ≤ cap; omega
        · exact trivial
    · match m, hm with
      | 0, hm => cases hm; trivial
      | 1, hm =>
        cases hm
        exact ⟨⟨B, 0, 1⟩, #[v], rfl, rfl, cB, hB, ⟨⟨_, rfl, by rw [show (sfBs B b cap br 3) = br from rfl]; show slAt br 1 0 (pre.map _).length v; rw [List.length_map]; exact hv⟩, trivial⟩, rfl⟩
      | 2, hm =>
        cases hm
        refine ⟨bs, fzb, cb, hb, hcap, hfzb, by show 0 + bl.length * 1 ≤ bs.size; omega, fun i hi => ?_, .inl rfl⟩
        show seg bs (0 + i * 1) 1 = _
        rw [Nat.zero_add, Nat.mul_one]; exact hbs i hi
      | 3, hm =>
        cases hm
        show (match sfBs B b cap br 3 with | none => _ | some b => _)
        rw [show (sfBs B b cap br 3) = br from rfl]
        cases br with
        | none => simp only at hr ⊢; rw [hr]; rfl
        | some r =>
          obtain ⟨_, cs, fz, k1, k2, k3, k4, k5⟩ := hr
          refine ⟨cs, fz, cr r rfl, k1, k2, k3, by show r.o + (pre.map _).length * 1 ≤ _; rw [List.length_map]; omega, fun i hi => ?_, .inl rfl⟩
          have hi' : i < pre.length := by simpa using hi
          show seg cs (r.o + i * 1) 1 = _
          rw [Nat.mul_one, k5 i hi']
          simp
      | m + 4, hm => cases m <;> cases hm
    · show (if sfCol B b br g = none then 0 else 1) = 1
      rw [if_neg hg]
    · show (if sfCol B b br g = none then 0 else 1) = 0
      rw [if_pos hc]
    · have h : (if m = 1 then some (some (⟨B, 0, 1⟩ : Base), Root.box 22 [.ref 3]) else if m = 2 then some (some ⟨b, 0, cap⟩, .rows 5 (.int .u8) bl) else none) = some (bb, r) := h
      split at h
      · rename_i e; subst e; cases h; exact ⟨by show 1 < 3; omega, rfl, _, rfl, Shape.refl _⟩
      · split at h
        · rename_i e; subst e; cases h; exact ⟨by show 2 < 3; omega, rfl, _, rfl, Shape.refl _⟩
        · cases h
  have hlen : (pre.map fun k => sfVal bl k.val).length = pre.length := by simp
  have hrun := sfRun bl (pre.map fun k => sfVal bl k.val) x.val
  have hok : appOk ((pre.map fun k => sfVal bl k.val).length + 1) (Try.prog.bytesOf 3) = true := by
    rw [hlen, show Try.prog.bytesOf 3 = 8 by kernel_rfl]
    simp [appOk]; omega
  rw [hok, show inb (0 : Int) 2 = true from rfl, show inb (1 : Int) 2 = true from rfl] at hrun
  simp only [gd] at hrun
  rw [sfCode]
  refine wpIn_block ?_
  refine drawIn_ok (X := sfX) (G := fun _ W' => KeepsOthers W W' ∧ Kp2 Bs Bn W W' ∧ SfI n₀ B b cap Bs Bn bl w0 (pre ++ [x]) W') ?_ (fun i o ho => plainB_ok ?_) S hrun (fun st' a' w' β' col' he S' => ?_) (fun a w h => h)
  · exact calls_ok (fun g c h => by cases h)
  · have := sfPlain
    rw [List.all_eq_true] at this
    exact this o (by rw [Array.mem_toList_iff]; exact Array.mem_of_getElem? ho)
  · simp only [Option.some.injEq, Prod.mk.injEq] at he
    obtain ⟨_, eh⟩ := he
    have f1 := (S'.fix 1 (some ⟨B, 0, 1⟩) (.box 22 [.ref 3]) rfl).2.1
    have f2 := (S'.fix 2 (some ⟨b, 0, cap⟩) (.rows 5 (.int .u8) bl) rfl).2.1
    have r1 := S'.heap 1 (.box 22 [.ref 3]) (by rw [eh]; rfl)
    have r2 := S'.heap 2 (.rows 5 (.int .u8) bl) (by rw [eh]; rfl)
    have r3 := S'.heap 3 (.rows 3 (.int .i64) ((pre.map fun k => sfVal bl k.val) ++ [sfVal bl x.val])) (by rw [eh]; rfl)
    obtain ⟨b1, cs1, e1, e2, e3, e4, e5, _⟩ := r1
    rw [f1] at e1; cases e1
    have hown : ∀ g, g < W.heap.size → sfCol B b br g = none → w'.heap[g]? = W.heap[g]? := fun g hg hc => S'.fr.block g hg (by show ¬ ((if sfCol B b br g = none then 0 else 1) = 1); rw [if_pos hc]; omega)
    have hbel' : Below n₀ W w' := ⟨S'.fr.os, S'.fr.tape, S'.fr.output, S'.fr.size, fun g hg => hown g (by have := hbel.size; omega) (by
      cases hc : sfCol B b br g with
      | none => rfl
      | some c => have := (cn0 g (by rw [hc]; simp)).2.1.1; omega)⟩
    have hcnone : ∀ k, (k = Bs ∨ k = Bn) → sfCol B b br k = none := fun k hk => by
      cases hc : sfCol B b br k with
      | none => rfl
      | some c =>
        have := (cn0 k (by rw [hc]; simp)).2.1
        rcases hk with rfl | rfl
        · exact absurd rfl this.2.1
        · exact absurd rfl this.2.2
    refine ⟨⟨S'.fr.size, fun k o hk ho => ?_⟩, ⟨S'.fr.size, fun k hk hl => hown k hl (hcnone k hk)⟩, ?_⟩
    · rw [hown k (Array.getElem?_eq_some_iff.1 hk).1 ?_]
      · exact hk
      · cases hc : sfCol B b br k with
        | none => rfl
        | some c =>
          obtain ⟨_, _, cs, e, fz, h⟩ := cn0 k (by rw [hc]; simp)
          rw [hk] at h; cases h; cases ho
    · match hcs : cs1.toList, e5 with
      | [v'], e5 =>
        obtain ⟨s, hs, hsl⟩ := e5.1
        have hs3 : s = ⟨3, .int .i64, (pre.map fun k => sfVal bl k.val) ++ [sfVal bl x.val]⟩ := by
          rw [eh] at hs; cases hs; rfl
        subst hs3
        refine ⟨v', β' 3, ?_, ?_, ?_, ?_, hbel.trans hbel', Nat.lt_of_lt_of_le hsz1 S'.fr.size, Nat.lt_of_lt_of_le hsz2 S'.fr.size⟩
        · rw [e4]; congr 2; apply Array.ext'; rw [hcs]
        · unfold rootRel at r2
          rw [f2] at r2
          obtain ⟨cs, fz, k1, k2, k3, k4, k5, k6, _⟩ := r2
          refine ⟨cs, fz, k2, k3, k4, fun i hi => ?_⟩
          have := k6 i hi
          have this : seg cs (0 + i * 1) 1 = _ := this
          rw [Nat.zero_add, Nat.mul_one] at this; exact this
        · have : slAt (β' 3) 1 0 ((pre.map fun k => sfVal bl k.val) ++ [sfVal bl x.val]).length v' := hsl
          rw [List.length_append, List.length_map] at this
          rw [List.length_append]; exact this
        · unfold rootRel at r3
          cases hβ : β' 3 with
          | none => rw [hβ] at r3; simp at r3
          | some g =>
            rw [hβ] at r3
            obtain ⟨cs, fz, k1, k2, k3, k4, k5, k6, _⟩ := r3
            refine ⟨?_, cs, fz, k2, k3, k4, ?_, fun i hi => ?_⟩
            · rcases (S'.col g.g (by rw [k1]; simp)).1 with ⟨y, h⟩ | h | h
              · rw [k1] at h; cases h
              · have := hbel.size; exact ⟨by omega, by omega, by omega⟩
              · have h : (if sfCol B b br g.g = none then 0 else 1) = 1 := h
                split at h
                · cases h
                · rename_i hne; exact (cn0 _ hne).2.1
            · have k5 : g.o + ((pre.map fun k => sfVal bl k.val) ++ [sfVal bl x.val]).length * 1 ≤ cs.size := k5
              simp only [List.length_append, List.length_map, List.length_cons, List.length_nil] at k5 ⊢
              omega
            · have hi' : i < ((pre.map fun k => sfVal bl k.val) ++ [sfVal bl x.val]).length := by simpa using hi
              have := k6 i hi'
              have this : seg cs (g.o + i * 1) 1 = [.int .i64 (((pre.map fun k => sfVal bl k.val) ++ [sfVal bl x.val])[i])] := this
              rw [Nat.mul_one] at this
              rw [this]
              congr 2
              by_cases hlt : i < pre.length
              · rw [List.getElem_append_left (by simpa using hlt), List.getElem_append_left hlt]; simp
              · have : i = pre.length := by simp at hi; omega
                subst this
                simp
end Go.Proofs.Ytcddcnnbhbffmaa
