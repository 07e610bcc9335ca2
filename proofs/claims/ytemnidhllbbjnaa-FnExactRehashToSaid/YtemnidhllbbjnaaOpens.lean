/- What an argument's cells read as, for slices, structs and what is nested in these: from the row's reading to the printed words' kinds. No condition. -/
import Derived.Test.YtemnidhllbbjnaaWWords
import Derived.Test.YtemnidhllbbjnaaWSized
import Derived.WalkKit
import Derived.ProofKit
import Derived.OpenShut
import Derived.ShutString
import Derived.ChangeOld
import Derived.Below
import Derived.SizedLaws
import Derived.Deep.Slices
namespace Go.Proofs.YtemnidhllbbjnaaOpens
open Go.RowKit Go.Proofs.YtemnidhllbbjnaaW.PrintWords
open Go.ChangeShapes Go.WideShapes Go.Deep

/-- Whatever a type's cells read as as data, they are of the kind d, at a value that is 'good'. -/
def Opens (P : Program) (t : TypeId) {α : Type} (d : Kd α) (good : α → Prop) : Prop :=
  P.cellsOf t = d.sz ∧ ∀ (H : Type) (enc : TypeId × Value → H) (w : World) (fuel : Nat) (cs : List Value) (x : DataW H × List MemPlace),
    DataW.trod enc P w 0 (fun _ => true) true fuel t cs = some x → ∃ v : α, d.K w v cs ∧ good v

section
variable {P : Program} {t e : TypeId}
theorem opens_int {k : IntKind} (ht : P.underlying t = some (.int k)) (hc : P.cellsOf t = 1) : Opens P t (Kd.int k) (fun n => (Lit.int k n).wf = true) :=
  ⟨hc, fun H enc w fuel cs x h => by
    obtain ⟨n, rfl, _, hw⟩ := DataW.trod_int ht h
    exact ⟨n, rfl, hw⟩⟩
theorem opens_bool (ht : P.underlying t = some .bool) (hc : P.cellsOf t = 1) : Opens P t Kd.bool (fun _ => True) :=
  ⟨hc, fun H enc w fuel cs x h => by
    obtain ⟨b, rfl, _⟩ := DataW.trod_bool ht h
    exact ⟨b, rfl, trivial⟩⟩
theorem opens_string (ht : P.underlying t = some .string) (hc : P.cellsOf t = 1) : Opens P t Kd.string (fun s => s.size ≤ maxLen) :=
  ⟨hc, fun H enc w fuel cs x h => by
    obtain ⟨s, rfl, _, hs⟩ := DataW.trod_string ht h
    exact ⟨s, rfl, hs⟩⟩

theorem opens_slice {α : Type} {d : Kd α} {good : α → Prop} (z : α) (ht : P.underlying t = some (.slice e)) (hc : P.cellsOf t = 1) (he : Opens P e d good) :
    Opens P t (Kd.slice e d) (fun xs => xs.length ≤ maxLen ∧ ∀ x ∈ xs, good x) :=
  ⟨hc, fun H enc w fuel cs x h => by
    rcases open_slice ht h with ⟨rfl, _⟩ | ⟨a, len, cap, m, n, D, Pl, rfl, _, hl, hm, hmm, _, hx⟩
    · exact ⟨[], ⟨none, 0, rfl, Nat.le_refl _, Kd.C_nil d w⟩, by simp, fun x hx => by cases hx⟩
    · have hlm : len ≤ m := by
        simp only [if_true] at hmm
        omega
      have each : ∀ i, i < len → ∃ v : α, ∃ cs' : List Value, w.cells? 0 (a.add (i * P.cellsOf e)) (P.cellsOf e) = some cs' ∧ d.K w v cs' ∧ good v := by
        intro i hi
        obtain ⟨cs', h1, h2⟩ := hx i (by omega)
        obtain ⟨v, hv, hg⟩ := he.2 H enc w n cs' _ h2
        exact ⟨v, cs', h1, hv, hg⟩
      have : Inhabited α := ⟨z⟩
      obtain ⟨f, hf⟩ := choose_lt each
      have hlen : ((List.range len).map f).length = len := by simp
      refine ⟨(List.range len).map f, ⟨some a, cap, by rw [hlen], by rw [hlen]; exact hl, hlen ▸ rfl, ?_, fun _ => ⟨a, rfl, ?_⟩⟩, by rw [hlen]; omega, ?_⟩
      · rw [hlen]
        unfold maxLen at hm
        omega
      · intro j p hp
        rw [List.getElem?_map] at hp
        have hj : j < len := by
          rcases Nat.lt_or_ge j len with hj | hj
          · exact hj
          · rw [List.getElem?_eq_none (by simpa using hj)] at hp
            cases hp
        rw [List.getElem?_range hj] at hp
        obtain rfl : f j = p := by simpa using hp
        obtain ⟨cs', h1, hk, _⟩ := hf j hj
        obtain ⟨_, hcl, hcell⟩ := World.cells?_some h1
        refine ⟨cs', by rw [hcl, he.1], hk, fun i u hu => ?_⟩
        have hi : i < P.cellsOf e := by
          rcases Nat.lt_or_ge i cs'.length with hi | hi
          · rw [← hcl]; exact hi
          · rw [List.getElem?_eq_none hi] at hu
            cases hu
        rw [← hu, ← hcell i hi, Go.Deep.add_add, he.1]
      · intro x hx
        obtain ⟨i, hi, rfl⟩ := List.mem_map.1 hx
        obtain ⟨_, _, _, hg⟩ := hf i (List.mem_range.1 hi)
        exact hg⟩

/-- One field behind the others: what is told of the fields from the place 'off' on. -/
def OpensFrom (P : Program) (fs : List Field) (off : Nat) {α : Type} (d : Kd α) (good : α → Prop) : Prop :=
  (∀ (H : Type) (enc : TypeId × Value → H) (w : World) (fuel : Nat) (cs : List Value), cs.length = off + d.sz →
    (∀ f ∈ fs, ∃ x, DataW.trod enc P w 0 (fun _ => true) true fuel f.type ((cs.drop f.offset).take (P.cellsOf f.type)) = some x) → ∃ v : α, d.K w v (cs.drop off) ∧ good v)

theorem opens_last {α : Type} {d : Kd α} {good : α → Prop} {f : Field} (h : Opens P f.type d good) : OpensFrom P [f] f.offset d good := by
  intro H enc w fuel cs hl hf
  obtain ⟨x, hx⟩ := hf f (List.mem_singleton.2 rfl)
  rw [h.1, List.take_of_length_le (by rw [List.length_drop]; omega)] at hx
  exact h.2 H enc w fuel _ x hx

theorem opens_cons {α β : Type} {d : Kd α} {good : α → Prop} {d' : Kd β} {good' : β → Prop} {f : Field} {fs : List Field} (h : Opens P f.type d good) (h' : OpensFrom P fs (f.offset + d.sz) d' good') :
    OpensFrom P (f :: fs) f.offset (Kd.pair d d') (fun x => good x.1 ∧ good' x.2) := by
  intro H enc w fuel cs hl hf
  obtain ⟨x, hx⟩ := hf f List.mem_cons_self
  rw [h.1] at hx
  obtain ⟨v, hv, hg⟩ := h.2 H enc w fuel _ x hx
  have hl' : cs.length = f.offset + d.sz + d'.sz := by
    rw [hl]
    show f.offset + (d.sz + d'.sz) = _
    omega
  obtain ⟨v', hv', hg'⟩ := h' H enc w fuel cs hl' (fun g hg => hf g (List.mem_cons_of_mem _ hg))
  refine ⟨(v, v'), ⟨(cs.drop f.offset).take d.sz, cs.drop (f.offset + d.sz), ?_, hv, hv'⟩, hg, hg'⟩
  rw [← List.drop_drop, List.take_append_drop]

theorem opens_struct {α β : Type} {d : Kd α} {good : α → Prop} {fs : List Field} (g : β → α) (gi : α → β) (hgi : ∀ a, g (gi a) = a) (ht : P.underlying t = some (.struct fs.toArray)) (hc : P.cellsOf t = d.sz) (h : OpensFrom P fs 0 d good) :
    Opens P t (Kd.iso d g) (fun x => good (g x)) :=
  ⟨hc, fun H enc w fuel cs x hx => by
    obtain ⟨xs, n, _, _, hl, hn, hf⟩ := DataW.trod_struct ht hx
    obtain ⟨v, hv, hg⟩ := h H enc w n cs (by rw [hl, hc]; omega) (fun f hfm => by
      obtain ⟨i, hi, rfl⟩ := List.getElem_of_mem hfm
      have hj := hf i fs[i] (by simp [hi])
      have hi2 : i < xs.length := by
        rw [hn]
        simpa using hi
      rw [List.getElem?_eq_getElem hi2] at hj
      exact ⟨_, hj⟩)
    refine ⟨gi v, ?_, by show good (g (gi v)); rw [hgi]; exact hg⟩
    show d.K w (g (gi v)) cs
    rw [hgi]
    simpa using hv⟩

/-- A whole argument: its reading, and where it leads, is below the heap's size. -/
theorem opens_arg {α : Type} {d : Kd α} {good : α → Prop} (h : Opens P t d good) {H : Type} {enc : TypeId × Value → H} {w : World} {v : Value} {dd : DataW H} {ps : List MemPlace} (ht : DataW.Trod enc P w 0 (fun _ => true) true t v dd ps) :
    ∃ x : α, d.K w x v.cells.toList ∧ good x := by
  obtain ⟨fuel, hf⟩ := ht
  exact h.2 H enc w fuel _ _ hf
end
end Go.Proofs.YtemnidhllbbjnaaOpens
