/- How abstract values and memory stand to the model's own, and what keeps that. No condition. -/
import Derived.Test.YtlkbmcmglkdciaaE0
set_option linter.unusedVariables false
set_option linter.unusedSectionVars false
set_option linter.unusedSimpArgs false
namespace Go.Proofs.YtlkbmcmglkdciaaE
open Go Go.RowKit

/-! ### Lists -/
theorem getN_eq {A : Type} : ∀ (l : List A) (n : Nat), getN l n = l[n]?
  | [], n => by simp [getN]
  | _ :: _, 0 => by simp [getN]
  | _ :: l, n + 1 => by simp [getN, getN_eq l n]
theorem setN_eq {A : Type} : ∀ (l : List A) (n : Nat) (x : A), setN l n x = l.set n x
  | [], n, x => by simp [setN]
  | _ :: _, 0, x => by simp [setN]
  | _ :: l, n + 1, x => by simp [setN, setN_eq l n]
theorem takeN_eq {A : Type} : ∀ (n : Nat) (l : List A), takeN n l = l.take n
  | 0, l => by simp [takeN]
  | n + 1, [] => by simp [takeN]
  | n + 1, x :: l => by simp [takeN, takeN_eq n l]
theorem dropN_eq {A : Type} : ∀ (n : Nat) (l : List A), dropN n l = l.drop n
  | 0, l => by simp [dropN]
  | n + 1, [] => by simp [dropN]
  | n + 1, x :: l => by simp [dropN, dropN_eq n l]
theorem lenN_eq {A : Type} : ∀ (l : List A), lenN l = l.length
  | [] => rfl
  | _ :: l => by simp [lenN, lenN_eq l]
theorem lk_cons (t u : Nat) (v : AV) (l : List (Nat × AV)) : lk ((u, v) :: l) t = if u = t then v else lk l t := by
  simp only [lk, cn]
  cases h : Nat.beq u t with
  | true => rw [if_pos (Nat.eq_of_beq_eq_true h)]
  | false => rw [if_neg (fun e => by subst e; simp at h)]

/-! ### Reading -/
def seg (cs : Array Value) (o s : Nat) : List Value := (cs.toList.drop o).take s
theorem seg_get {cs : Array Value} {o s j : Nat} (h : j < s) : (seg cs o s)[j]? = cs[o + j]? := by
  simp [seg, List.getElem?_take, h, List.getElem?_drop]
theorem seg_len {cs : Array Value} {o s : Nat} (h : o + s ≤ cs.size) : (seg cs o s).length = s := by
  simp [seg]; omega
theorem seg_seg {cs : Array Value} {o s p q : Nat} (h : p + q ≤ s) : ((seg cs o s).drop p).take q = seg cs (o + p) q := by
  simp only [seg, List.drop_take, List.drop_drop, List.take_take]
  rw [Nat.min_eq_left (by omega)]

def rep (w : World) (Z : Nat → Prop) : (k : Kind) → k.den → List Value → Prop
  | .int ik, x, vs => vs = [.int ik x]
  | .bool, x, vs => vs = [.bool x]
  | .str, x, vs => vs = [.string x]
  | .pair a b, x, vs => ∃ p q, vs = p ++ q ∧ rep w Z a x.1 p ∧ rep w Z b x.2 q
  | .sl e k, xs, vs => ∃ A c, vs = [.slice A (List.length xs) c] ∧ List.length xs ≤ c ∧
      (xs = [] ∨ ∃ g o cs e2 fz, A = some ⟨g, o, none⟩ ∧ Z g ∧ w.heap[g]? = some (.cells cs e2 fz) ∧ ∀ i, ∀ h : i < List.length xs, rep w Z k xs[i] (seg cs (o + i * k.sz) k.sz))
theorem rep_len {w : World} {Z : Nat → Prop} : ∀ {k : Kind} {x : k.den} {vs : List Value}, rep w Z k x vs → vs.length = k.sz
  | .int _, _, _, h => by rw [show _ = _ from h]; rfl
  | .bool, _, _, h => by rw [show _ = _ from h]; rfl
  | .str, _, _, h => by rw [show _ = _ from h]; rfl
  | .pair a b, _, _, h => by
    obtain ⟨p, q, rfl, h1, h2⟩ := h
    simp [rep_len h1, rep_len h2, Kind.sz]
  | .sl _ _, _, _, h => by obtain ⟨A, c, rfl, _⟩ := h; rfl
theorem rep_mono {w w' : World} {Z Z' : Nat → Prop} (hz : ∀ g o, Z g → w.heap[g]? = some o → Z' g ∧ w'.heap[g]? = some o) :
    ∀ {k : Kind} {x : k.den} {vs : List Value}, rep w Z k x vs → rep w' Z' k x vs
  | .int _, _, _, h => h
  | .bool, _, _, h => h
  | .str, _, _, h => h
  | .pair a b, _, _, h => by
    obtain ⟨p, q, rfl, h1, h2⟩ := h
    exact ⟨p, q, rfl, rep_mono hz h1, rep_mono hz h2⟩
  | .sl _ k, _, _, h => by
    obtain ⟨A, c, rfl, hc, h⟩ := h
    refine ⟨A, c, rfl, hc, h.imp id ?_⟩
    rintro ⟨g, o, cs, e2, fz, rfl, hg, hw, hx⟩
    exact ⟨g, o, cs, e2, fz, rfl, (hz _ _ hg hw).1, (hz _ _ hg hw).2, fun i hi => rep_mono hz (hx i hi)⟩

/-! ### Where a root lies -/
structure Base where
  g : Nat
  o : Nat
  S : Nat
abbrev Bs := Nat → Option Base
abbrev Col := Nat → Option (Nat × Bool)
def zone (col : Col) : Nat → Prop := fun g => col g = none
def inner (col : Col) (n : Nat) : Nat → Prop := fun g => col g = some (n, false)

/-- How many elements a root has. -/
def rlen : Root → Nat
  | .rows _ _ xs => xs.length | .hol _ _ xs _ => xs.length | .box _ _ => 1 | .dead => 0
def rsz : Root → Nat
  | .rows _ k _ => k.sz | .hol _ k _ _ => k.sz | .box _ vs => vs.length | .dead => 0

/-- A slice value over root n's cells, from element lo on. -/
def slAt (b : Option Base) (sz lo len : Nat) (v : Value) : Prop :=
  ∃ A c, v = .slice A len c ∧ len ≤ c ∧ (match b with
    | none => c = 0 ∧ lo = 0
    | some b => (c = 0 ∨ A = some ⟨b.g, b.o + lo * sz, none⟩) ∧ b.o + lo * sz + c * sz ≤ b.S)

mutual
def vrel (h : List Root) (β : Bs) (col : Col) (w : World) : AV → Value → Prop
  | .undef, _ => True
  | .int k n, v => v = .int k n
  | .bool b, v => v = .bool b
  | .str s, v => v = .string s
  | .nilc, v => v = .slice none 0 0
  | .nil _ _, v => v = .slice none 0 0
  | .row e k xs, v => rep w (zone col) (.sl e k) xs [v]
  | .ref n, v => ∃ r, getN h n = some r ∧ 0 < rsz r ∧ slAt (β n) (rsz r) 0 (rlen r) v
  | .win n lo len, v => ∃ r, getN h n = some r ∧ 0 < rsz r ∧ lo + len ≤ rlen r ∧ slAt (β n) (rsz r) lo len v
  | .sub n i c, v => ∃ s b cs fz, rowsOf h n = some s ∧ β n = some b ∧ i < s.xs.length ∧ w.heap[b.g]? = some (.cells cs s.e fz) ∧ cs[b.o + i * s.k.sz + c]? = some v ∧ ∃ y, subAt s.k (getAt s.k.dflt s.xs i) c = some y
  | .ptr n i c, v => ∃ r b, getN h n = some r ∧ β n = some b ∧ v = .pointer (some ⟨b.g, b.o + i * rsz r + c, none⟩) ∧ i < rlen r
  | .nptr n i c j d, v => ∃ s b cs fz e' k' ys g' o' q, rowsOf h n = some s ∧ β n = some b ∧ i < s.xs.length ∧ w.heap[b.g]? = some (.cells cs s.e fz) ∧
      subAt s.k (getAt s.k.dflt s.xs i) c = some (.row e' k' ys) ∧ j < ys.length ∧
      cs[b.o + i * s.k.sz + c]? = some (.slice (some ⟨g', o', none⟩) ys.length q) ∧ v = .pointer (some ⟨g', o' + j * k'.sz + d, none⟩)
  | .sptr k xs i c, v => ∃ g o cs e fz, zone col g ∧ w.heap[g]? = some (.cells cs e fz) ∧ i < xs.length ∧ v = .pointer (some ⟨g, o + c, none⟩) ∧ rep w (zone col) k (getAt k.dflt xs i) (seg cs o k.sz)
  | .agg vs, v => ∃ cs, v = .agg cs ∧ vrels h β col w vs cs.toList
  | .tup vs, v => ∃ cs, v = .tuple cs ∧ vrels h β col w vs cs.toList
  | .fn f, v => v = .func (.func f) #[] #[]
  | .nilp, v => v = .pointer none
  | .own _ _ _, _ => False
  | .mayb b, v => ∃ c, v = .bool c ∧ (b = false → c = false)
  | .clo f vs, v => ∃ cs, v = .func (.func f) #[] cs ∧ vrels h β col w vs cs.toList
  | .swin n i c lo len, v => ∃ s b cs fz e' k' ys A q A', rowsOf h n = some s ∧ β n = some b ∧ i < s.xs.length ∧ w.heap[b.g]? = some (.cells cs s.e fz) ∧
      subAt s.k (getAt s.k.dflt s.xs i) c = some (.row e' k' ys) ∧ lo + len ≤ ys.length ∧ ys.length ≤ q ∧
      cs[b.o + i * s.k.sz + c]? = some (.slice A ys.length q) ∧ v = .slice A' len (q - lo) ∧ (q = lo ∨ A' = A.map (·.add (lo * k'.sz)))
def vrels (h : List Root) (β : Bs) (col : Col) (w : World) : List AV → List Value → Prop
  | [], [] => True
  | a :: l, v :: vs => vrel h β col w a v ∧ vrels h β col w l vs
  | _, _ => False
end

def blk : Value → Option Nat
  | .slice (some a) _ c => if c = 0 then none else some a.block
  | _ => none
def unfrozen (n : Nat) (fz : Nat × Nat) : Prop := ∀ j, j < n → ¬ (fz.1 ≤ j ∧ j < fz.2)
/-- A slice in a cell: where it lies, to its whole capacity. -/
def capP (w : World) (Z : Nat → Prop) (e sz : Nat) : Value → Prop
  | .slice A _ c => c = 0 ∨ ∃ g o cs fz, A = some ⟨g, o, none⟩ ∧ Z g ∧ w.heap[g]? = some (.cells cs e fz) ∧ unfrozen cs.size fz ∧ o + c * sz ≤ cs.size
  | _ => True
def inK (w : World) (Z : Nat → Prop) : Kind → List Value → Prop
  | .pair a b, vs => inK w Z a (vs.take a.sz) ∧ inK w Z b (vs.drop a.sz)
  | .sl e k, vs => ∀ v ∈ vs, capP w Z e k.sz v
  | _, _ => True
theorem capP_mono {w w' : World} {Z Z' : Nat → Prop} (hz : ∀ g o, Z g → w.heap[g]? = some o → Z' g ∧ w'.heap[g]? = some o) {e sz : Nat} {v : Value} (h : capP w Z e sz v) : capP w' Z' e sz v := by
  unfold capP at h ⊢
  split
  · rename_i A l c
    rcases h with h | ⟨g, o, cs, fz, h1, h2, h3, h4, h5⟩
    · exact .inl h
    · exact .inr ⟨g, o, cs, fz, h1, (hz _ _ h2 h3).1, (hz _ _ h2 h3).2, h4, h5⟩
  · trivial
theorem inK_mono {w w' : World} {Z Z' : Nat → Prop} (hz : ∀ g o, Z g → w.heap[g]? = some o → Z' g ∧ w'.heap[g]? = some o) :
    ∀ {k : Kind} {vs : List Value}, inK w Z k vs → inK w' Z' k vs
  | .int _, _, _ => trivial
  | .bool, _, _ => trivial
  | .str, _, _ => trivial
  | .pair a b, _, h => ⟨inK_mono hz h.1, inK_mono hz h.2⟩
  | .sl _ _, _, h => fun v hv => capP_mono hz (h v hv)
/-- The inner rows of a root lie apart, each in a block of its own. -/
def owns (w : World) (Z : Nat → Prop) (k : Kind) (len : Nat) (cs : Array Value) (o : Nat) : Prop :=
  flat k = true ∨ (((seg cs o (len * k.sz)).filterMap blk).Nodup ∧ ∀ i, i < len → inK w Z k (seg cs (o + i * k.sz) k.sz))
theorem owns_mono {w w' : World} {Z Z' : Nat → Prop} (hz : ∀ g o, Z g → w.heap[g]? = some o → Z' g ∧ w'.heap[g]? = some o) {k : Kind} {len : Nat} {cs : Array Value} {o : Nat} (h : owns w Z k len cs o) : owns w' Z' k len cs o :=
  h.imp id fun h => ⟨h.1, fun i hi => inK_mono hz (h.2 i hi)⟩

def rootRel (h : List Root) (β : Bs) (col : Col) (w : World) (n : Nat) : Root → Prop
  | .dead => True
  | .box t vs => ∃ b cs, β n = some b ∧ b.o = 0 ∧ col b.g = some (n, true) ∧ w.heap[b.g]? = some (.cells cs t (0, 0)) ∧ vrels h β col w vs cs.toList ∧ vs.all cellOk = true
  | .rows e k xs => match β n with
    | none => xs = []
    | some b => ∃ cs fz, col b.g = some (n, true) ∧ w.heap[b.g]? = some (.cells cs e fz) ∧ cs.size = b.S ∧ unfrozen cs.size fz ∧ b.o + xs.length * k.sz ≤ cs.size ∧
        (∀ i, ∀ h : i < xs.length, rep w (inner col n) k xs[i] (seg cs (b.o + i * k.sz) k.sz)) ∧
        owns w (inner col n) k xs.length cs b.o
  | .hol e k xs j => ∃ b cs fz, β n = some b ∧ col b.g = some (n, true) ∧ w.heap[b.g]? = some (.cells cs e fz) ∧ cs.size = b.S ∧ unfrozen cs.size fz ∧ b.o + xs.length * k.sz ≤ cs.size ∧ j < xs.length ∧ k.sz = 1 ∧
        (∀ i, ∀ h : i < xs.length, i ≠ j → rep w (inner col n) k xs[i] (seg cs (b.o + i * k.sz) k.sz) ∧ inK w (inner col n) k (seg cs (b.o + i * k.sz) k.sz)) ∧
        ((seg cs b.o (xs.length * k.sz)).eraseIdx j |>.filterMap blk).Nodup

/-- Root 0 is always dead: its colour is that of the blocks that the caller owns and did not hand over. -/
theorem live_ne {h : List Root} {n : Nat} {r : Root} (hz : getN h 0 = some .dead) (hr : getN h n = some r) (hd : r ≠ .dead) : n ≠ 0 := by
  rintro rfl; rw [hz] at hr; cases hr; exact hd rfl
/-- What may become of a root that stays: its numbers turn, its shape does not. -/
def Shape : Root → Root → Prop
  | _, .dead => True
  | .rows e k xs, .rows e' k' ys => e = e' ∧ k = k' ∧ xs.length = ys.length
  | .rows e k xs, .hol e' k' ys _ => e = e' ∧ k = k' ∧ xs.length = ys.length
  | .hol e k xs _, .rows e' k' ys => e = e' ∧ k = k' ∧ xs.length = ys.length
  | .hol e k xs _, .hol e' k' ys _ => e = e' ∧ k = k' ∧ xs.length = ys.length
  | .box t vs, .box t' ws => t = t' ∧ vs.length = ws.length
  | _, _ => False
theorem Shape.refl : ∀ r : Root, Shape r r
  | .dead => trivial
  | .rows _ _ _ => ⟨rfl, rfl, rfl⟩
  | .hol _ _ _ _ => ⟨rfl, rfl, rfl⟩
  | .box _ _ => ⟨rfl, rfl⟩
theorem Shape.trans : ∀ {a b c : Root}, Shape a b → Shape b c → Shape a c := by
  intro a b c h k
  cases c with
  | dead => cases a <;> trivial
  | rows e q xs => cases b <;> cases a <;> simp_all [Shape]
  | hol e q xs i => cases b <;> cases a <;> simp_all [Shape]
  | box t vs => cases b <;> cases a <;> simp_all [Shape]
/-- What a call owns, and which roots stay where they are. -/
structure Own where
  o : Nat → Nat
  fx : Nat → Option (Option Base × Root)
instance : CoeFun Own (fun _ => Nat → Nat) := ⟨Own.o⟩

/-- What the world that a call began with keeps: all but the blocks that it was given. -/
structure Fr (own0 : Own) (w0 w : World) : Prop where
  os : w.os = w0.os
  tape : w.tape = w0.tape
  output : w.output = w0.output
  size : w0.heap.size ≤ w.heap.size
  block : ∀ b, b < w0.heap.size → ¬ own0 b = 1 → w.heap[b]? = w0.heap[b]?

structure Sat (own0 : Own) (w0 : World) (st : St) (a : Act) (w : World) (β : Bs) (cl : Col) : Prop where
  env : ∀ t, vrel st.heap β cl w (lk st.env t) (a.tmps.getD t undef)
  heap : ∀ n r, getN st.heap n = some r → rootRel st.heap β cl w n r
  nt : a.tmps.size = st.nt
  defers : a.defers = []
  fr : Fr own0 w0 w
  col : ∀ b, cl b ≠ none → ((∃ x, cl b = some (0, x)) ∨ w0.heap.size ≤ b ∨ own0 b = 1) ∧ b < w.heap.size
  zero : getN st.heap 0 = some .dead
  zon : ∀ g, g < w0.heap.size → cl g = none → own0 g = 0
  fix : ∀ n b r, own0.fx n = some (b, r) → n < st.nf ∧ β n = b ∧ ∃ r', getN st.heap n = some r' ∧ Shape r r'

/-! ### What keeps a value's relation -/
structure Same (h h' : List Root) (β β' : Bs) (col col' : Col) (w w' : World) (n : Nat) : Prop where
  root : getN h' n = getN h n
  base : β' n = β n
  blocks : ∀ g o, (∃ b, col g = some (n, b)) → w.heap[g]? = some o → col' g = col g ∧ w'.heap[g]? = some o
/-- A root whose cells were written: it lies where it lay and is as long as it was. -/
structure Weak (h h' : List Root) (β β' : Bs) (n : Nat) : Prop where
  base : β' n = β n
  ptr : ∀ r, getN h n = some r → ∃ r', getN h' n = some r' ∧ rsz r' = rsz r ∧ rlen r' = rlen r
theorem Same.weak {h h' : List Root} {β β' : Bs} {col col' : Col} {w w' : World} {n : Nat} (s : Same h h' β β' col col' w w' n) : Weak h h' β β' n :=
  ⟨s.base, fun r hr => ⟨r, by rw [s.root]; exact hr, rfl, rfl⟩⟩

mutual
/-- The roots that a value names satisfy p (loosely named), q (where what lies there is named). -/
def sees (p q : Nat → Prop) : AV → Prop
  | .ref n | .win n _ _ | .ptr n _ _ => p n
  | .sub n _ _ | .nptr n _ _ _ _ | .swin n _ _ _ _ => q n
  | .agg vs | .tup vs | .clo _ vs => seesL p q vs
  | _ => True
def seesL (p q : Nat → Prop) : List AV → Prop
  | [] => True
  | v :: l => sees p q v ∧ seesL p q l
end
structure Zk (col col' : Col) (w w' : World) : Prop where
  zone : ∀ g o, zone col g → w.heap[g]? = some o → YtlkbmcmglkdciaaE.zone col' g ∧ w'.heap[g]? = some o

section
variable {h h' : List Root} {β β' : Bs} {col col' : Col} {w w' : World}
mutual
theorem vrel_keep (hz : Zk col col' w w') {p q : Nat → Prop} (hp : ∀ n, p n → Weak h h' β β' n)
    (hq : ∀ n, q n → Same h h' β β' col col' w w' n) (hh : ∀ n r, getN h n = some r → rootRel h β col w n r) : ∀ (a : AV) (v : Value), sees p q a → vrel h β col w a v → vrel h' β' col' w' a v
  | .undef, _, _, _ => trivial
  | .int _ _, _, _, hv => hv
  | .bool _, _, _, hv => hv
  | .str _, _, _, hv => hv
  | .nilc, _, _, hv => hv
  | .nil _ _, _, _, hv => hv
  | .row _ _ _, _, _, hv => rep_mono hz.zone hv
  | .ref n, v, hs, hv => by
    obtain ⟨r, h1, h2, h3⟩ := hv
    obtain ⟨r', h5, h6, h7⟩ := (hp n hs).ptr r h1
    exact ⟨r', h5, by rw [h6]; exact h2, by rw [(hp n hs).base, h6, h7]; exact h3⟩
  | .win n lo len, v, hs, hv => by
    obtain ⟨r, h1, h2, h3, h4⟩ := hv
    obtain ⟨r', h5, h6, h7⟩ := (hp n hs).ptr r h1
    exact ⟨r', h5, by rw [h6]; exact h2, by rw [h7]; exact h3, by rw [(hp n hs).base, h6]; exact h4⟩
  | .sub n i c, v, hs, hv => by
    obtain ⟨s, b, cs, fz, h1, h2, h3, h4, h5⟩ := hv
    have hr : getN h n = some (Root.rows s.e s.k s.xs) := by
      simp only [rowsOf] at h1; split at h1 <;> first | (cases h1; assumption) | cases h1
    have := hh n _ hr
    simp only [rootRel, h2] at this
    obtain ⟨cs', fz', hcol, hw, _⟩ := this
    exact ⟨s, b, cs, fz, by simp only [rowsOf, (hq n hs).root]; exact h1, by rw [(hq n hs).base]; exact h2, h3, ((hq n hs).blocks _ _ ⟨_, hcol⟩ h4).2, h5⟩
  | .ptr n i c, v, hs, hv => by
    obtain ⟨r, b, h1, h2, h3, h4⟩ := hv
    obtain ⟨r', h5, h6, h7⟩ := (hp n hs).ptr r h1
    exact ⟨r', b, h5, by rw [(hp n hs).base]; exact h2, by rw [h6]; exact h3, by rw [h7]; exact h4⟩
  | .nptr n i c j d, v, hs, hv => by
    obtain ⟨s, b, cs, fz, e', k', ys, g', o', q', h1, h2, h3, h4, h5⟩ := hv
    have hr : getN h n = some (Root.rows s.e s.k s.xs) := by
      simp only [rowsOf] at h1; split at h1 <;> first | (cases h1; assumption) | cases h1
    have := hh n _ hr
    simp only [rootRel, h2] at this
    obtain ⟨cs', fz', hcol, hw, _⟩ := this
    exact ⟨s, b, cs, fz, e', k', ys, g', o', q', by simp only [rowsOf, (hq n hs).root]; exact h1, by rw [(hq n hs).base]; exact h2, h3, ((hq n hs).blocks _ _ ⟨_, hcol⟩ h4).2, h5⟩
  | .swin n i c lo len, v, hs, hv => by
    obtain ⟨s, b, cs, fz, e', k', ys, A, q', A', h1, h2, h3, h4, h5⟩ := hv
    have hr : getN h n = some (Root.rows s.e s.k s.xs) := by
      simp only [rowsOf] at h1; split at h1 <;> first | (cases h1; assumption) | cases h1
    have := hh n _ hr
    simp only [rootRel, h2] at this
    obtain ⟨cs', fz', hcol, hw, _⟩ := this
    exact ⟨s, b, cs, fz, e', k', ys, A, q', A', by simp only [rowsOf, (hq n hs).root]; exact h1, by rw [(hq n hs).base]; exact h2, h3, ((hq n hs).blocks _ _ ⟨_, hcol⟩ h4).2, h5⟩
  | .sptr _ _ _ _, _, _, hv => by
    obtain ⟨g, o, cs, e, fz, h1, h2, h3, h4, h5⟩ := hv
    exact ⟨g, o, cs, e, fz, (hz.zone _ _ h1 h2).1, (hz.zone _ _ h1 h2).2, h3, h4, rep_mono hz.zone h5⟩
  | .agg vs, _, hs, hv => by
    obtain ⟨cs, h1, h2⟩ := hv
    exact ⟨cs, h1, vrels_keep hz hp hq hh vs _ hs h2⟩
  | .tup vs, _, hs, hv => by
    obtain ⟨cs, h1, h2⟩ := hv
    exact ⟨cs, h1, vrels_keep hz hp hq hh vs _ hs h2⟩
  | .fn _, _, _, hv => hv
  | .nilp, _, _, hv => hv
  | .own _ _ _, _, _, hv => hv
  | .mayb _, _, _, hv => hv
  | .clo _ vs, _, hs, hv => by
    obtain ⟨cs, h1, h2⟩ := hv
    exact ⟨cs, h1, vrels_keep hz hp hq hh vs _ hs h2⟩
theorem vrels_keep (hz : Zk col col' w w') {p q : Nat → Prop} (hp : ∀ n, p n → Weak h h' β β' n)
    (hq : ∀ n, q n → Same h h' β β' col col' w w' n) (hh : ∀ n r, getN h n = some r → rootRel h β col w n r) : ∀ (a : List AV) (v : List Value), seesL p q a → vrels h β col w a v → vrels h' β' col' w' a v
  | [], [], _, hv => hv
  | [], _ :: _, _, hv => hv
  | _ :: _, [], _, hv => hv
  | a :: l, v :: vs, hs, hv => ⟨vrel_keep hz hp hq hh a v hs.1 hv.1, vrels_keep hz hp hq hh l vs hs.2 hv.2⟩
end
end
end Go.Proofs.YtlkbmcmglkdciaaE
