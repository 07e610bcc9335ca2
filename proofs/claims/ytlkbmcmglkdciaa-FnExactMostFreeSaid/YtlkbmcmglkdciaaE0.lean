/- The abstract executor: kinds of data, abstract values, abstract memory, and how a function's code is carried out over them. No condition. -/
import Derived.Calls
import Derived.LoopN
import Derived.OrdersHeld
import Derived.Below
import Derived.KernelRfl
import Derived.Laws.BytesArg
set_option linter.unusedVariables false
namespace Go.Proofs.YtlkbmcmglkdciaaE
open Go

/-- Kinds of data. -/
inductive Kind where
  | int (k : IntKind) | bool | str | pair (a b : Kind) | sl (e : Nat) (k : Kind)
abbrev Kind.den : Kind → Type
  | .int _ => Int | .bool => Bool | .str => ByteArray | .pair a b => a.den × b.den | .sl _ k => List k.den
def Kind.sz : Kind → Nat
  | .pair a b => a.sz + b.sz | _ => 1
def Kind.dflt : (k : Kind) → k.den
  | .int _ => (0 : Int) | .bool => false | .str => ByteArray.empty | .pair a b => (a.dflt, b.dflt) | .sl _ _ => []

inductive AV where
  | undef
  | int (k : IntKind) (n : Int)
  | bool (b : Bool)
  | str (s : ByteArray)
  | nilc
  | nil (e : Nat) (k : Kind)
  | row (e : Nat) (k : Kind) (xs : List k.den)
  | ref (n : Nat)
  | win (n lo len : Nat)
  | sub (n i c : Nat)
  | ptr (n i c : Nat)
  | nptr (n i c j d : Nat)
  | sptr (k : Kind) (xs : List k.den) (i c : Nat)
  | agg (vs : List AV)
  | tup (vs : List AV)
  | fn (f : Nat)
  | nilp
  | own (e : Nat) (k : Kind) (xs : List k.den)
  | mayb (b : Bool)
  | clo (f : Nat) (vs : List AV)
  | swin (n i c lo len : Nat)

inductive Root where
  | dead
  | box (t : Nat) (vs : List AV)
  | rows (e : Nat) (k : Kind) (xs : List k.den)
  | hol (e : Nat) (k : Kind) (xs : List k.den) (i : Nat)

structure St where
  env : List (Nat × AV)
  heap : List Root
  nt : Nat
  nf : Nat

def gd {R : Type} (b : Bool) (x : Option R) : Option R := match b with | true => x | false => none
universe u
def cn {A : Type u} (b : Bool) (x y : A) : A := match b with | true => x | false => y

/-- Two ways that must come to the same. -/
noncomputable def both {R : Type} (x y : Option R) : Option R := @ite _ (x = y) (Classical.propDecidable _) x none
/-- The same way twice. -/
noncomputable def dup {R : Type} (x : Option R) : Option R := both x x
/-- What all that it may be come to. -/
noncomputable def nd {D R : Type} (p : D → Prop) (κ : D → Option R) : Option R := @dite _ (∃ r, ∀ d, p d → κ d = some r) (Classical.propDecidable _) (fun h => some h.choose) fun _ => none
noncomputable def bothAll {R : Type} : List (Option R) → Option R
  | [] => none
  | [x] => x
  | x :: y :: l => both x (bothAll (y :: l))

def lk : List (Nat × AV) → Nat → AV
  | [], _ => .undef
  | (u, v) :: l, t => cn (Nat.beq u t) v (lk l t)

def St.put (st : St) (d : Option Nat) (v : AV) : Option St :=
  match d with
  | none => some st
  | some d => cn (Nat.blt d st.nt) (some { st with env := (d, v) :: st.env }) none

def ofConst : Value → Option AV
  | .int k n => some (.int k n)
  | .bool b => some (.bool b)
  | .string s => some (.str s)
  | .pointer none => some .nilp
  | .slice none 0 0 => some .nilc
  | _ => none

def ev (st : St) : Operand → Option AV
  | .tmp t => match lk st.env t with | .undef => none | v => some v
  | .const v => ofConst v
  | .func f => some (.fn f)
  | .global _ => none

def evs (st : St) : List Operand → Option (List AV)
  | [] => some []
  | x :: l => match ev st x, evs st l with | some v, some vs => some (v :: vs) | _, _ => none

/-! ### Types -/
def kindFs (f : Nat → Option Kind) : List Field → Option Kind
  | [] => none
  | [x] => f x.type
  | x :: l => match f x.type, kindFs f l with | some a, some b => some (.pair a b) | _, _ => none
def kindOf (P : Program) : Nat → Nat → Option Kind
  | 0, _ => none
  | d + 1, t =>
    match P.underlying t with
    | some (.int k) => some (.int k)
    | some .bool => some .bool
    | some .string => some .str
    | some (.slice e) => match kindOf P d e with | some k => some (.sl e k) | none => none
    | some (.struct fs) => kindFs (kindOf P d) fs.toList
    | _ => none
def slT (P : Program) (t : Nat) : Option (Nat × Kind) :=
  match P.underlying t with
  | some (.slice e) => match kindOf P 6 e with | some k => cn (Nat.beq (P.cellsOf e) k.sz) (some (e, k)) none | none => none
  | _ => none
def aggT (P : Program) (t : Nat) : Option Bool :=
  match P.underlying t with
  | some (.struct _) | some (.array _ _) => some true
  | some _ => some false
  | none => none
def isStrT (P : Program) (t : Nat) : Bool :=
  match P.underlying t with
  | some (.struct fs) => fs.toList.all fun f => (P.info? f.type).isSome
  | _ => false
def retype (P : Program) (t : Nat) : AV → Option AV
  | .nilc => match slT P t with | some (e, k) => some (.nil e k) | none => none
  | v => some v
def zeroK : Kind → List AV
  | .int k => [.int k 0] | .bool => [.bool false] | .str => [.str ByteArray.empty]
  | .pair a b => zeroK a ++ zeroK b | .sl e k => [.nil e k]
def zmatch : List AV → List Value → Bool
  | [], [] => true
  | .int k n :: l, .int k' n' :: l' => decide (k = k') && decide (n = n') && zmatch l l'
  | .bool b :: l, .bool b' :: l' => (b == b') && zmatch l l'
  | .str s :: l, .string s' :: l' => decide (s.data = s'.data) && zmatch l l'
  | .nil _ _ :: l, .slice none 0 0 :: l' => zmatch l l'
  | _, _ => false
/-- The zero cells of a type, as they stand in the program's own table. -/
def zeroT (P : Program) (t : Nat) : Option (Kind × List AV) :=
  match kindOf P 6 t, P.info? t with
  | some k, some i => match i.zero with
    | some v => cn (zmatch (zeroK k) v.cells.toList && Nat.beq i.size k.sz && Nat.beq v.cells.size k.sz) (some (k, zeroK k)) none
    | none => none
  | _, _ => none

/-! ### Cells of an element -/
/-- Of a snapshot. -/
def cellsS : (k : Kind) → k.den → List AV
  | .int k, x => [.int k x] | .bool, x => [.bool x] | .str, x => [.str x]
  | .pair a b, x => cellsS a x.1 ++ cellsS b x.2
  | .sl e k, x => [.row e k x]
/-- Of a root's row: a nested slice is named by its place. -/
def cellsO (n i : Nat) : (k : Kind) → Nat → k.den → List AV
  | .int k, _, x => [.int k x] | .bool, _, x => [.bool x] | .str, _, x => [.str x]
  | .pair a b, c, x => cellsO n i a c x.1 ++ cellsO n i b (c + a.sz) x.2
  | .sl _ _, c, _ => [.sub n i c]
/-- The nested slice at cell c. -/
def subAt : (k : Kind) → k.den → Nat → Option AV
  | .sl e k, x, 0 => some (.row e k x)
  | .pair a b, x, c => cn (Nat.blt c a.sz) (subAt a x.1 c) (subAt b x.2 (c - a.sz))
  | _, _, _ => none
def getAt {A : Type} (d : A) (xs : List A) (i : Nat) : A := xs.getD i d

def asV (agg : Option Bool) (vs : List AV) : Option AV :=
  match agg, vs with
  | some true, vs => some (.agg vs)
  | some false, [v] => some v
  | _, _ => none
def AV.cells : AV → List AV
  | .agg vs => vs
  | v => [v]

def setN {A : Type} : List A → Nat → A → List A
  | [], _, _ => []
  | _ :: l, 0, x => x :: l
  | y :: l, n + 1, x => y :: setN l n x
def getN {A : Type} : List A → Nat → Option A
  | [], _ => none
  | x :: _, 0 => some x
  | _ :: l, n + 1 => getN l n
def takeN {A : Type} : Nat → List A → List A
  | 0, _ => []
  | _ + 1, [] => []
  | n + 1, x :: l => x :: takeN n l
def dropN {A : Type} : Nat → List A → List A
  | 0, l => l
  | _ + 1, [] => []
  | n + 1, _ :: l => dropN n l
def lenN {A : Type} : List A → Nat
  | [] => 0
  | _ :: l => lenN l + 1

/-! ### What a slice value reads as -/
structure Sl where
  e : Nat
  k : Kind
  xs : List k.den
def rowsOf (h : List Root) (n : Nat) : Option Sl := match getN h n with | some (.rows e k xs) => some ⟨e, k, xs⟩ | _ => none
def readSl (h : List Root) : AV → Option Sl
  | .nil e k => some ⟨e, k, []⟩
  | .row e k xs => some ⟨e, k, xs⟩
  | .ref n => match getN h n with | some (.rows e k xs) => some ⟨e, k, xs⟩ | _ => none
  | .win n lo len => match getN h n with | some (.rows e k xs) => some ⟨e, k, (xs.drop lo).take len⟩ | _ => none
  | .sub n i c => match getN h n with
    | some (.rows _ k xs) => match subAt k (getAt k.dflt xs i) c with | some (.row e k' ys) => some ⟨e, k', ys⟩ | _ => none
    | _ => none
  | .swin n i c lo len => match getN h n with
    | some (.rows _ k xs) => match subAt k (getAt k.dflt xs i) c with | some (.row e k' ys) => some ⟨e, k', (ys.drop lo).take len⟩ | _ => none
    | _ => none
  | _ => none
def lenOf (h : List Root) (v : AV) : Option Nat :=
  match v with
  | .win _ _ len => some len
  | .swin _ _ _ _ len => some len
  | v => match readSl h v with | some s => some s.xs.length | none => none

/-- A value as a call's argument that is only read. -/
def toVal (P : Program) (h : List Root) (t : Nat) : AV → Option AV
  | .int k n => some (.int k n)
  | .bool b => some (.bool b)
  | .str s => some (.str s)
  | .fn f => some (.fn f)
  | .nilc => match slT P t with | some (e, k) => some (.row e k []) | none => none
  | v => match readSl h v with | some s => some (.row s.e s.k s.xs) | none => none

/-- Views into root n are forgotten. -/
def sees1 (n : Nat) : AV → Bool
  | .ref m | .win m _ _ | .sub m _ _ | .ptr m _ _ | .nptr m _ _ _ _ | .swin m _ _ _ _ => Nat.beq m n
  | .undef | .int _ _ | .bool _ | .str _ | .nilc | .nil _ _ | .row _ _ _ | .sptr _ _ _ _ | .fn _ | .nilp | .own _ _ _ | .mayb _ => false
  | .agg _ | .tup _ | .clo _ _ => true
def seesN (n : Nat) : AV → Bool
  | .agg vs | .tup vs | .clo _ vs => vs.any (sees1 n)
  | v => sees1 n v
def forget (n : Nat) (v : AV) : AV := cn (seesN n v) .undef v
def forgetE (n : Nat) : List (Nat × AV) → List (Nat × AV)
  | [] => []
  | (t, v) :: l => (t, forget n v) :: forgetE n l
def forgetL (n : Nat) : List AV → List AV
  | [] => []
  | v :: l => forget n v :: forgetL n l
def forgetH (n : Nat) : List Root → List Root
  | [] => []
  | .box t vs :: l => .box t (forgetL n vs) :: forgetH n l
  | r :: l => r :: forgetH n l

def noEl {A : Type} : List A → Bool
  | [] => true | _ => false
def inb (i : Int) (n : Nat) : Bool := decide (0 ≤ i) && decide (i < (n : Int))

abbrev Stp := Option (Bool × AV × St)
def ok1 (v : AV) (st : St) : Stp := some (true, v, st)

def stBin (op : BinOp) (a b : AV) (st : St) : Stp :=
  match op, a, b with
  | .add, .int k x, .int k' y => cn (decide (k = k')) (ok1 (.int k (k.wrap (x + y))) st) none
  | .sub, .int k x, .int k' y => cn (decide (k = k')) (ok1 (.int k (k.wrap (x - y))) st) none
  | .mul, .int k x, .int k' y => cn (decide (k = k')) (ok1 (.int k (k.wrap (x * y))) st) none
  | .eql, .int k x, .int k' y => cn (decide (k = k')) (ok1 (.bool (decide (x = y))) st) none
  | .neq, .int k x, .int k' y => cn (decide (k = k')) (ok1 (.bool (!decide (x = y))) st) none
  | .lss, .int k x, .int k' y => cn (decide (k = k')) (ok1 (.bool (decide (x < y))) st) none
  | .leq, .int k x, .int k' y => cn (decide (k = k')) (ok1 (.bool (decide (x ≤ y))) st) none
  | .gtr, .int k x, .int k' y => cn (decide (k = k')) (ok1 (.bool (decide (y < x))) st) none
  | .geq, .int k x, .int k' y => cn (decide (k = k')) (ok1 (.bool (decide (y ≤ x))) st) none
  | .and, .int k x, .int k' y => cn (decide (k = k')) (ok1 (.int k (k.wrap ((BitVec.ofInt k.bits x &&& BitVec.ofInt k.bits y).toNat))) st) none
  | .or, .int k x, .int k' y => cn (decide (k = k')) (ok1 (.int k (k.wrap ((BitVec.ofInt k.bits x ||| BitVec.ofInt k.bits y).toNat))) st) none
  | .xor, .int k x, .int k' y => cn (decide (k = k')) (ok1 (.int k (k.wrap ((BitVec.ofInt k.bits x ^^^ BitVec.ofInt k.bits y).toNat))) st) none
  | .andNot, .int k x, .int k' y => cn (decide (k = k')) (ok1 (.int k (k.wrap ((BitVec.ofInt k.bits x &&& ~~~ BitVec.ofInt k.bits y).toNat))) st) none
  | .quo, .int k x, .int k' y => cn (decide (k = k')) (some (!decide (y = 0), .int k (k.wrap (x.tdiv y)), st)) none
  | .rem, .int k x, .int k' y => cn (decide (k = k')) (some (!decide (y = 0), .int k (x.tmod y), st)) none
  | .shl, .int k x, .int _ y => some (decide (0 ≤ y), .int k (k.wrap (x * 2 ^ (min y.toNat k.bits))), st)
  | .shr, .int k x, .int _ y => some (decide (0 ≤ y), .int k (x.fdiv (2 ^ (min y.toNat k.bits))), st)
  | .add, .str x, .str y => some (decide (x.size + y.size ≤ 2 ^ 47), .str (x ++ y), st)
  | .eql, .str x, .str y => ok1 (.bool (decide (x.toList = y.toList))) st
  | .neq, .str x, .str y => ok1 (.bool (!decide (x.toList = y.toList))) st
  | _, _, _ => none


def kindEq : (a b : Kind) → Option (PLift (a = b))
  | .int k, .int k' => if h : k = k' then some ⟨by rw [h]⟩ else none
  | .bool, .bool => some ⟨rfl⟩
  | .str, .str => some ⟨rfl⟩
  | .pair a b, .pair a' b' => match kindEq a a', kindEq b b' with | some ⟨h⟩, some ⟨h'⟩ => some ⟨by rw [h, h']⟩ | _, _ => none
  | .sl e k, .sl e' k' => if h : e = e' then match kindEq k k' with | some ⟨h'⟩ => some ⟨by rw [h, h']⟩ | none => none else none
  | _, _ => none
def castK {a b : Kind} (h : a = b) (xs : List a.den) : List b.den := h ▸ xs
/-- A row of the kind that is wanted. -/
def rowK (k : Kind) (s : Sl) : Option (List k.den) := match kindEq s.k k with | some ⟨h⟩ => some (castK h s.xs) | none => none
def flat : Kind → Bool
  | .sl _ _ => false | .pair a b => flat a && flat b | _ => true

def hpush (h : List Root) (r : Root) : List Root := h ++ [r]
def splice {A : Type} (ws : List A) (c : Nat) (vs : List A) : List A := takeN c ws ++ vs ++ dropN (c + lenN vs) ws
/-- The cells of an element as a store finds them: 'undef' keeps a nested slice. -/
def cellsK : (k : Kind) → k.den → List AV
  | .int k, x => [.int k x] | .bool, x => [.bool x] | .str, x => [.str x]
  | .pair a b, x => cellsK a x.1 ++ cellsK b x.2
  | .sl _ _, _ => [.undef]
/-- An element out of cells, over the old one; the roots that are moved in are told. -/
def denAt (h : List Root) : (k : Kind) → k.den → List AV → Option (k.den × List Nat)
  | .int k, _, [.int k' n] => cn (decide (k = k')) (some (n, [])) none
  | .bool, _, [.bool b] => some (b, [])
  | .str, _, [.str s] => some (s, [])
  | .sl _ _, x, [.undef] => some (x, [])
  | .sl e k, _, [.nil e' _] => cn (Nat.beq e e') (some ([], [])) none
  | .sl e k, _, [.ref m] => match rowsOf h m with
    | some s => cn (Nat.beq e s.e && flat s.k) (match rowK k s with | some ys => some (ys, [m]) | none => none) none
    | _ => none
  | .pair a b, x, vs => match denAt h a x.1 (takeN a.sz vs) with
    | some (y, l1) => match denAt h b x.2 (dropN a.sz vs) with
      | some (z, l2) => some ((y, z), l1 ++ l2)
      | none => none
    | none => none
  | _, _, _ => none
def notIn (n : Nat) : List Nat → Bool
  | [] => true
  | m :: l => cn (Nat.beq m n) false (notIn n l)
def nodupN : List Nat → Bool
  | [] => true
  | n :: l => cn (notIn n l) (nodupN l) false
/-- Views into root n are forgotten, and it is dead. -/
def kill (n : Nat) (st : St) : St := { st with env := forgetE n st.env, heap := setN (forgetH n st.heap) n .dead }
def kills : List Nat → St → St
  | [], st => st
  | n :: l, st => kills l (kill n st)

/-- Cells that a box may hold. -/
def cellOk : AV → Bool
  | .undef | .int _ _ | .bool _ | .str _ | .nil _ _ | .row _ _ _ | .ref _ | .win _ _ _ | .fn _ => true
  | _ => false
/-- Cells that may be stored; 'undef' is none. -/
def cellOk1 : AV → Bool
  | .int _ _ | .bool _ | .str _ | .nil _ _ | .row _ _ _ | .ref _ | .win _ _ _ | .fn _ => true
  | _ => false
def forgetS1 (n : Nat) : AV → AV
  | .sub m i c => cn (Nat.beq m n) .undef (.sub m i c)
  | .nptr m i c j d => cn (Nat.beq m n) .undef (.nptr m i c j d)
  | .swin m i c lo len => cn (Nat.beq m n) .undef (.swin m i c lo len)
  | .agg _ | .tup _ | .clo _ _ => .undef
  | v => v
def forgetS (n : Nat) : List (Nat × AV) → List (Nat × AV)
  | [] => []
  | (t, v) :: l => (t, forgetS1 n v) :: forgetS n l
def fieldOf (P : Program) (t f : Nat) : Option (Nat × Nat) :=
  match P.underlying t with
  | some (.struct fs) => match fs[f]? with
    | some x => cn (Nat.beq (P.cellsOf x.type) 0) none (some (x.offset, x.type))
    | none => none
  | _ => none

/-- The cells that stand from an address on, to the end of the element or box. -/
def restOf (st : St) : AV → Option (List AV)
  | .ptr n i c => match getN st.heap n with
    | some (.box _ ws) => some (dropN c ws)
    | some (.rows _ k xs) => some (dropN c (cellsO n i k 0 (getAt k.dflt xs i)))
    | _ => none
  | .sptr k xs i c => some (dropN c (cellsS k (getAt k.dflt xs i)))
  | .nptr n i c j d => match getN st.heap n with
    | some (.rows _ k xs) => match subAt k (getAt k.dflt xs i) c with
      | some (.row _ k' ys) => cn (flat k') (some (dropN d (cellsS k' (getAt k'.dflt ys j)))) none
      | _ => none
    | _ => none
  | _ => none
def stLoad (P : Program) (t : Nat) (a : AV) (st : St) : Stp :=
  match restOf st a with
  | some vs => cn (Nat.ble (P.cellsOf t) (lenN vs)) (match asV (aggT P t) (takeN (P.cellsOf t) vs) with | some v => ok1 v st | none => none) none
  | none => none

/-! A hole: an inner row that was taken out for good, till one is put in its place. -/
def takeH (n i e : Nat) (k : Kind) (xs : List k.den) (s : Sl) (st : St) : St :=
  { st with env := forgetS n st.env, heap := hpush (setN st.heap n (.hol e k xs i)) (.rows s.e s.k s.xs) }
/-- A row of flat rows, with another one at a place. -/
def putRow (i e' : Nat) (s : Sl) : (k : Kind) → List k.den → Option (List k.den)
  | .sl e k, xs => cn (Nat.beq e e' && flat k) (match rowK k s with | some ys => some (xs.set i ys) | none => none) none
  | _, _ => none
def headR : AV → Option Nat
  | .ref m | .win m _ _ => some m
  | _ => none
def stFill (n i e : Nat) (k : Kind) (xs : List k.den) (v : AV) (st : St) : Stp :=
  match headR v, readSl st.heap v with
  | some m, some s => match putRow i s.e s k xs with
    | some zs => cn (Nat.beq m n) none (let st1 := kill m st
        ok1 .undef { st1 with heap := setN st1.heap n (.rows e k zs) })
    | none => none
  | _, _ => none
def stStore (P : Program) (t : Nat) (a v : AV) (st : St) : Stp :=
  match retype P t v with
  | none => none
  | some v =>
  let vs := v.cells
  cn (Nat.beq (lenN vs) (P.cellsOf t) && (Nat.ble 1 (lenN vs) && vs.all cellOk1)) (match a with
  | .ptr n i c => match getN st.heap n with
    | some (.box bt ws) => cn (Nat.ble (c + lenN vs) (lenN ws)) (ok1 .undef { st with heap := setN st.heap n (.box bt (splice ws c vs)) }) none
    | some (.rows e k xs) =>
      match denAt st.heap k (getAt k.dflt xs i) (splice (cellsK k (getAt k.dflt xs i)) c vs) with
      | some (x, ms) => cn (Nat.ble (c + lenN vs) k.sz && (notIn n ms && nodupN ms))
          (let st1 := kills ms st
           ok1 .undef { st1 with env := cn (flat k) st1.env (forgetS n st1.env), heap := setN st1.heap n (.rows e k (xs.set i x)) }) none
      | none => none
    | some (.hol e k xs j) => cn (Nat.beq c 0 && Nat.beq i j) (stFill n i e k xs v st) none
    | _ => none
  | _ => none) none

/-- A window of an inner row, put in its place. -/
def stStoreW (P : Program) (t n i c m j d lo len : Nat) (st : St) : Stp :=
  match getN st.heap n, readSl st.heap (.sub n i 0) with
  | some (.rows e k xs), some s => cn (Nat.beq (P.cellsOf t) 1 && (Nat.beq c 0 && (Nat.beq d 0 && (Nat.beq m n && (flat s.k && (Nat.beq k.sz 1 && Nat.beq j i))))))
      (stFill n i e k xs (.win (lenN st.heap) lo len) (takeH n i e k xs s st)) none
  | _, _ => none

/-! An inner row as a root of its own, for a while. -/
/-- Rows of nothing but flat rows. -/
def flat2 : Kind → Bool
  | .sl _ k => flat k | .pair a b => flat2 a && flat2 b | _ => true
def takeS (n : Nat) (s : Sl) (st : St) : St :=
  { st with env := forgetE n st.env, heap := hpush (setN (forgetH n st.heap) n .dead) (.rows s.e s.k s.xs) }
/-- What names roots loosely, and none of gs; inner rows of root n, or of roots that were not handed over. -/
def loose1 (n : Nat) (hs gs : List Nat) : AV → Bool
  | .ref m | .win m _ _ | .ptr m _ _ => notIn m gs
  | .sub m _ _ => cn (Nat.beq m n) true (notIn m hs && notIn m gs)
  | .undef | .int _ _ | .bool _ | .str _ | .nilc | .nil _ _ | .row _ _ _ | .sptr _ _ _ _ | .fn _ | .nilp => true
  | _ => false
def loose (n : Nat) (hs gs : List Nat) : AV → Bool
  | .agg vs => vs.all (loose1 n hs gs)
  | v => loose1 n hs gs v
def zipE (n : Nat) (hs gs : List Nat) : List (Nat × AV) → List (Nat × AV) → List (Nat × AV)
  | (t, u) :: l, (t', v) :: l' => cn (Nat.beq t t') ((t, cn (loose n hs gs u) u v) :: zipE n hs gs l l') []
  | _, _ => []
def backE (n : Nat) (hs gs : List Nat) : Option Nat → List (Nat × AV) → List (Nat × AV) → List (Nat × AV)
  | none, old, new => zipE n hs gs old new
  | some d, old, (t, v) :: new => cn (Nat.beq t d) ((t, v) :: zipE n hs gs old new) []
  | some _, _, [] => []
/-- Boxes that were not handed over are as they were. -/
def backH (n : Nat) (hs gs : List Nat) : Nat → List Root → List Root → List Root
  | j, .box t ws :: l, r :: l' => cn (notIn j hs && ws.all (loose n hs gs)) (.box t ws) r :: backH n hs gs (j + 1) l l'
  | j, _ :: l, r :: l' => r :: backH n hs gs (j + 1) l l'
  | _, [], l' => l'
  | _, _ :: _, [] => []
def fillT (hs gs : List Nat) (n i q e : Nat) (k : Kind) (xs : List k.den) (m : Nat) (d : Option Nat) (st st2 : St) : Option St :=
  match denAt st2.heap k (getAt k.dflt xs i) (splice (cellsK k (getAt k.dflt xs i)) q [.ref m]) with
  | some (x, _) =>
    let st3 := kill m st2
    some { st3 with env := backE n hs gs d st.env st3.env, heap := setN (backH n hs gs 0 st.heap st3.heap) n (.rows e k (xs.set i x)) }
  | none => none
def scalC : AV → Bool
  | .int _ _ | .bool _ | .str _ => true
  | _ => false
/-- A store into an element of an inner row. -/
def stStoreN (P : Program) (t n i q j d : Nat) (v : AV) (st : St) : Stp :=
  let vs := v.cells
  cn (Nat.beq (lenN vs) (P.cellsOf t) && (Nat.ble 1 (lenN vs) && vs.all scalC)) (match readSl st.heap (.sub n i q), getN st.heap n with
  | some s, some (.rows e k xs) =>
    match denAt st.heap s.k (getAt s.k.dflt s.xs j) (splice (cellsK s.k (getAt s.k.dflt s.xs j)) d vs) with
    | some (y, _) => cn (flat s.k && (flat2 k && Nat.ble (d + lenN vs) s.k.sz)) (
        let st1 := takeS n s st
        match fillT [lenN st.heap] [] n i q e k xs (lenN st.heap) none st { st1 with heap := setN st1.heap (lenN st.heap) (.rows s.e s.k (s.xs.set j y)) } with
        | some st2 => ok1 .undef st2
        | none => none) none
    | none => none
  | _, _ => none) none

def stIndex (sz : Nat) (x : AV) (i : Int) (st : St) : Stp :=
  match x with
  | .ref n => match rowsOf st.heap n with
    | some s => cn (Nat.beq s.k.sz sz) (some (inb i s.xs.length, .ptr n i.toNat 0, st)) none
    | _ => match getN st.heap n with
      | some (.hol _ k xs _) => cn (Nat.beq k.sz sz) (some (inb i xs.length, .ptr n i.toNat 0, st)) none
      | _ => none
  | .win n lo len => match rowsOf st.heap n with
    | some s => cn (Nat.beq s.k.sz sz) (some (inb i len, .ptr n (lo + i.toNat) 0, st)) none
    | _ => none
  | .row _ k xs => cn (Nat.beq k.sz sz) (some (inb i xs.length, .sptr k xs i.toNat 0, st)) none
  | .sub n j c => match readSl st.heap x with
    | some s => cn (Nat.beq s.k.sz sz) (some (inb i s.xs.length, .nptr n j c i.toNat 0, st)) none
    | none => none
  | .swin n j c lo len => match readSl st.heap (.sub n j c) with
    | some s => cn (Nat.beq s.k.sz sz) (some (inb i len, .nptr n j c (lo + i.toNat) 0, st)) none
    | none => none
  | _ => none

def AV.shift (d : Nat) : AV → Option AV
  | .ptr n i c => some (.ptr n i (c + d))
  | .nptr n i c j e => some (.nptr n i c j (e + d))
  | .sptr k xs i c => some (.sptr k xs i (c + d))
  | _ => none

/-- A window cut out of a window. -/
def stWin (n o m : Nat) (lo hi : Option Int) (x : AV) (st : St) : Stp :=
  match lo, hi with
  | none, none => ok1 x st
  | some l, none => some (decide (0 ≤ l) && decide (l ≤ m), .win n (o + l.toNat) (m - l.toNat), st)
  | none, some h => some (decide (0 ≤ h) && decide (h ≤ m), .win n o h.toNat, st)
  | some l, some h => some (decide (0 ≤ l) && (decide (l ≤ h) && decide (h ≤ m)), .win n (o + l.toNat) (h.toNat - l.toNat), st)
/-- A window cut out of a window of an inner row. -/
def stSwin (n j c o m : Nat) (lo hi : Option Int) (st : St) : Stp :=
  match lo, hi with
  | none, none => none
  | some l, none => some (decide (0 ≤ l) && decide (l ≤ m), .swin n j c (o + l.toNat) (m - l.toNat), st)
  | none, some h => some (decide (0 ≤ h) && decide (h ≤ m), .swin n j c o h.toNat, st)
  | some l, some h => some (decide (0 ≤ l) && (decide (l ≤ h) && decide (h ≤ m)), .swin n j c (o + l.toNat) (h.toNat - l.toNat), st)
/-- x[lo:hi]. -/
def stSlice (P : Program) (t : Nat) (x : AV) (lo hi : Option Int) (st : St) : Stp :=
  match P.underlying t, x with
  | some .string, .str s => match lo, hi with
    | none, none => ok1 x st
    | some l, none => some (decide (0 ≤ l) && decide (l ≤ s.size), .str (s.extract l.toNat s.size), st)
    | none, some h => some (decide (0 ≤ h) && decide (h ≤ s.size), .str (s.extract 0 h.toNat), st)
    | some l, some h => some (decide (0 ≤ l) && (decide (l ≤ h) && decide (h ≤ s.size)), .str (s.extract l.toNat h.toNat), st)
  | some (.slice d), .row e k xs => cn (Nat.beq k.sz (P.cellsOf d)) (match lo, hi with
    | none, none => ok1 x st
    | some l, none => some (decide (0 ≤ l) && decide (l ≤ xs.length), .row e k (xs.drop l.toNat), st)
    | none, some h => some (decide (0 ≤ h) && decide (h ≤ xs.length), .row e k (xs.take h.toNat), st)
    | some l, some h => some (decide (0 ≤ l) && (decide (l ≤ h) && decide (h ≤ xs.length)), .row e k ((xs.take h.toNat).drop l.toNat), st)) none
  | some (.slice d), .ref n => match rowsOf st.heap n with
    | some s => cn (Nat.beq s.k.sz (P.cellsOf d)) (stWin n 0 s.xs.length lo hi x st) none
    | none => none
  | some (.slice d), .win n o len => match rowsOf st.heap n with
    | some s => cn (Nat.beq s.k.sz (P.cellsOf d)) (stWin n o len lo hi x st) none
    | none => none
  | some (.slice d), .sub n j c => match readSl st.heap (.sub n j c) with
    | some s => cn (Nat.beq s.k.sz (P.cellsOf d)) (stSwin n j c 0 s.xs.length lo hi st) none
    | none => none
  | some (.slice d), .swin n j c o len => match readSl st.heap (.sub n j c) with
    | some s => cn (Nat.beq s.k.sz (P.cellsOf d)) (stSwin n j c o len lo hi st) none
    | none => none
  | _, _ => none

def bytesL (s : ByteArray) : List Int := s.data.toList.map fun b => (b.toNat : Int)

def mkOk (n m : Int) (b : Nat) : Bool := decide (0 ≤ n) && (decide (n = m) && (decide (n.toNat ≤ 2 ^ 46) && decide (n.toNat * b ≤ 2 ^ 46)))
def appOk (n b : Nat) : Bool := decide (n ≤ 2 ^ 46) && decide (n * b ≤ 2 ^ 46)
/-- What is appended: as a row of kind k; a root that holds nested slices is moved. -/
def appSrc (h : List Root) (k : Kind) (y : AV) : Option (List k.den × List Nat) :=
  match y with
  | .str s => match rowK k ⟨0, .int .u8, bytesL s⟩ with | some ys => some (ys, []) | none => none
  | y => match readSl h y with
    | some s => match rowK k s with
      | some ys => cn (flat k) (some (ys, [])) (match y with | .ref m => some (ys, [m]) | .nil _ _ => some (ys, []) | _ => none)
      | none => none
    | none => none

def stApp (P : Program) (e : Nat) (k : Kind) (ys : List k.den) (ms : List Nat) (n : Nat) (st : St) : Stp :=
  match rowsOf st.heap n with
  | some s => match rowK k s with
    | some xs => cn (Nat.beq e s.e && (notIn n ms && (nodupN ms && Nat.ble st.nf n))) (let st1 := kills ms st
        some (appOk (xs.length + ys.length) (P.bytesOf e), .ref n,
          { st1 with env := forgetE n st1.env, heap := setN (forgetH n st1.heap) n (.rows e k (xs ++ ys)) })) none
    | none => none
  | none => none
def appT (P : Program) (t : Nat) : Bool :=
  match P.underlying t with
  | some (.slice _) | some .string => true
  | _ => false
def stAppend (P : Program) (t : Nat) (x y : AV) (st : St) : Stp :=
  match slT P t, retype P t x with
  | some (e, k), some x => match zeroT P e, appSrc st.heap k y with
    | some (k', _), some (ys, ms) => match kindEq k' k with
      | some _ => match x with
        | .nil _ _ => stApp P e k ys ms (lenN st.heap) { st with heap := hpush st.heap (.rows e k []) }
        | .ref n => stApp P e k ys ms n st
        | _ => none
      | none => none
    | _, _ => none
  | _, _ => none

def appZT (P : Program) (t : Nat) : Bool :=
  match P.underlying t with
  | some (.int _) => true
  | _ => false
def andS (b : Bool) (s : Stp) : Stp := match s with | some (c, v, st) => some (b && c, v, st) | none => none
/-- append(x, make([]T, n)...): n zero values. -/
def stAppZ (P : Program) (t : Nat) (x y : AV) (st : St) : Stp :=
  match slT P t, retype P t x, y with
  | some (e, k), some x, .int _ n => match zeroT P e with
    | some (k', _) => match kindEq k' k with
      | some _ => cn (flat k) (andS (decide (0 ≤ IntKind.i64.wrap n)) (match x with
        | .nil _ _ => stApp P e k (List.replicate (IntKind.i64.wrap n).toNat k.dflt) [] (lenN st.heap) { st with heap := hpush st.heap (.rows e k []) }
        | .ref m => stApp P e k (List.replicate (IntKind.i64.wrap n).toNat k.dflt) [] m st
        | _ => none)) none
      | none => none
    | none => none
  | _, _, _ => none

def stMake (P : Program) (t : Nat) (l c : Operand) (st : St) : Stp :=
  match slT P t with
  | some (e, k) => match zeroT P e, ev st l, ev st c with
    | some (k', _), some (.int .i64 n), some (.int .i64 m) => match kindEq k' k with
      | some _ => some (mkOk n m (P.bytesOf e), .ref (lenN st.heap), { st with heap := hpush st.heap (.rows e k (List.replicate n.toNat k.dflt)) })
      | none => none
    | _, _, _ => none
  | none => none

/-- The elements of a literal, one behind the other. -/
def litEls (h : List Root) (k : Kind) : Nat → List (Nat × AV) → Option (List k.den × List Nat)
  | _, [] => some ([], [])
  | i, (j, v) :: l => cn (Nat.beq i j && v.cells.all cellOk1) (match denAt h k k.dflt v.cells with
    | some (x, m1) => match litEls h k (i + 1) l with | some (xs, m2) => some (x :: xs, m1 ++ m2) | none => none
    | none => none) none
def evParts (st : St) : List (Nat × Operand) → Option (List (Nat × AV))
  | [] => some []
  | (i, x) :: l => match ev st x, evParts st l with | some v, some vs => some ((i, v) :: vs) | _, _ => none
def retypes (P : Program) (e : Nat) : List (Nat × AV) → Option (List (Nat × AV))
  | [] => some []
  | (i, v) :: l => match retype P e v, retypes P e l with | some v, some l => some ((i, v) :: l) | _, _ => none
def stLit (P : Program) (t len : Nat) (parts : List (Nat × AV)) (st : St) : Stp :=
  match slT P t with
  | some (e, k) => match zeroT P e, retypes P e parts with
    | some (k', _), some parts => match kindEq k' k, litEls st.heap k 0 parts with
      | some _, some (xs, ms) => cn (Nat.beq (lenN parts) len && (Nat.ble (len * k.sz) 100000 && nodupN ms)) (let st1 := kills ms st
          ok1 (.ref (lenN st1.heap)) { st1 with heap := hpush st1.heap (.rows e k xs) }) none
      | _, _ => none
    | _, _ => none
  | none => none

def buildC (P : Program) (t : Nat) : List AV → List (Nat × AV) → Option (List AV)
  | ws, [] => some ws
  | ws, (f, v) :: l => match fieldOf P t f with
    | some (off, ft) => match retype P ft v with
      | some v => cn (Nat.beq (lenN v.cells) (P.cellsOf ft) && (v.cells.all cellOk1 && Nat.ble (off + lenN v.cells) (lenN ws))) (buildC P t (splice ws off v.cells) l) none
      | none => none
    | none => none

def stConv (P : Program) (src dst : Nat) (x : AV) (st : St) : Stp :=
  match P.underlying src, P.underlying dst, x with
  | some (.int _), some (.int k), .int _ n => ok1 (.int k (k.wrap n)) st
  | some .string, some (.slice e), .str s => match P.underlying e with
    | some (.int .u8) => cn (Nat.beq (P.cellsOf e) 1) (some (decide (s.size ≤ 2 ^ 46), .ref (lenN st.heap), { st with heap := hpush st.heap (.rows e (.int .u8) (bytesL s)) })) none
    | _ => none
  | some (.slice e), some .string, x => match P.underlying e, readSl st.heap x with
    | some (.int .u8), some s => match rowK (.int .u8) s with
      | some xs => ok1 (.str (strOfNums xs)) st
      | none => none
    | _, _ => none
  | _, _, _ => none

def optInt (st : St) : Option Operand → Option (Option Int)
  | none => some none
  | some x => match ev st x with | some (.int .i64 n) => some (some n) | _ => none

/-- ys over what stands from lo on, len places at most. -/
def copyL {A : Type} (xs : List A) (lo len : Nat) (ys : List A) : List A := xs.take lo ++ ys.take (min len ys.length) ++ xs.drop (lo + min len ys.length)
def winOf (h : List Root) : AV → Option (Nat × Nat × Nat)
  | .ref n => match rowsOf h n with | some s => some (n, 0, s.xs.length) | none => none
  | .win n lo len => some (n, lo, len)
  | _ => none
def stCopy (P : Program) (t : Nat) (x y : AV) (st : St) : Stp :=
  match slT P t, winOf st.heap x, readSl st.heap y with
  | some (e, k), some (n, lo, len), some s => match rowsOf st.heap n with
    | some r => match rowK k s, rowK k r with
      | some ys, some xs => cn (flat k && Nat.beq e r.e) (ok1 (.int .i64 (min len ys.length : Nat)) { st with heap := setN st.heap n (.rows e k (copyL xs lo len ys)) }) none
      | _, _ => none
    | none => none
  | _, _, _ => none
/-- Two truths held against each other. -/
def stBool (P : Program) (op : BinOp) (t : Nat) (a b : Bool) (st : St) : Stp :=
  match op, P.underlying t with
  | .eql, some .bool => ok1 (.bool (a == b)) st
  | .neq, some .bool => ok1 (.bool (!(a == b))) st
  | _, _ => none
/-- A slice held against nil. -/
def stNil (P : Program) (op : BinOp) (t : Nat) (a : AV) (st : St) : Stp :=
  match op, P.underlying t, a with
  | .eql, some (.slice _), .nil _ _ => ok1 (.bool true) st
  | .eql, some (.slice _), .row _ _ xs => ok1 (.mayb (noEl xs)) st
  | _, _, _ => none

/-- One operation that is no call. -/
def stepX (P : Program) (o : Oper) (st : St) : Stp :=
  match o.op with
  | .move x | .assign x => match ev st x with
    | some v => match retype P o.type v with | some v => ok1 v st | none => none
    | none => none
  | .pick c a b => match ev st c with
    | some (.bool c) => match ev st a, ev st b with
      | some (.bool a), some (.bool b) => ok1 (.bool (cn c a b)) st
      | some (.bool a), _ => cn c (ok1 (.bool a) st) none
      | _, some (.bool b) => cn c none (ok1 (.bool b) st)
      | _, _ => none
    | _ => none
  | .alloc t => match zeroT P t with
    | some (_, vs) => ok1 (.ptr (lenN st.heap) 0 0) { st with heap := hpush st.heap (.box t vs) }
    | none => none
  | .box t x => match ev st x with
    | some v => match retype P t v with
      | some v => cn (v.cells.all cellOk1) (ok1 (.ptr (lenN st.heap) 0 0) { st with heap := hpush st.heap (.box t v.cells) }) none
      | none => none
    | none => none
  | .build t parts => match zeroT P t, evParts st parts.toList with
    | some (_, ws), some l => match buildC P t ws l with | some ws => cn (isStrT P t) (ok1 (.agg ws) st) none | none => none
    | _, _ => none
  | .buildSlice t len parts => match evParts st parts.toList with | some l => stLit P t len l st | none => none
  | .load t a => match ev st a with | some a => stLoad P t a st | none => none
  | .store t a x => match ev st a, ev st x with
    | some (.nptr n i c j d), some v => stStoreN P t n i c j d v st
    | some (.ptr n i c), some (.swin m j d lo len) => stStoreW P t n i c m j d lo len st
    | some a, some v => stStore P t a v st
    | _, _ => none
  | .nilCheck x => match ev st x with | some (.ptr n i c) => ok1 (.ptr n i c) st | some (.sptr k xs i c) => ok1 (.sptr k xs i c) st | _ => none
  | .binOp op t x y _ => match ev st x, ev st y with
    | some a, some .nilc => stNil P op t a st
    | some (.bool a), some (.bool b) => stBool P op t a b st
    | some a, some b => stBin op a b st
    | _, _ => none
  | .makeFunc f first cap => match f, first.toList, evs st cap.toList with
    | .func g, [], some vs => ok1 (.clo g vs) st
    | _, _, _ => none
  | .unOp op _ x => match op, ev st x with
    | UnOp.not, some (.bool b) => ok1 (.bool (!b)) st
    | UnOp.neg, some (.int k n) => ok1 (.int k (k.wrap (0 - n))) st
    | _, _ => none
  | .convert s d x => match ev st x with | some v => stConv P s d v st | none => none
  | .makeSlice t l c => stMake P t l c st
  | .slice t x lo hi none => match ev st x, optInt st lo, optInt st hi with
    | some x, some lo, some hi => stSlice P t x lo hi st
    | _, _, _ => none
  | .fieldAddr t a f => match ev st a, fieldOf P t f with
    | some a, some (d, _) => match a.shift d with | some v => ok1 v st | none => none
    | _, _ => none
  | .field t x f => match ev st x, fieldOf P t f with
    | some (.agg vs), some (d, ft) => cn (Nat.ble (d + P.cellsOf ft) (lenN vs)) (match asV (aggT P ft) (takeN (P.cellsOf ft) (dropN d vs)) with | some v => ok1 v st | none => none) none
    | _, _ => none
  | .indexAddr t x i => match ev st x, ev st i with
    | some x, some (.int _ n) => match slT P t with | some (_, k) => stIndex k.sz x n st | none => none
    | _, _ => none
  | .index t x i => match P.underlying t, ev st x, ev st i with
    | some .string, some (.str s), some (.int _ n) => some (inb n s.size, .int .u8 ((s.data.getD n.toNat 0).toNat : Int), st)
    | _, _, _ => none
  | .extract x i => match ev st x with | some (.tup vs) => (match getN vs i with | some v => ok1 v st | none => none) | _ => none
  | .call { callee := .builtin b, args, argTypes } =>
    match b, args.toList, argTypes.toList with
    | .len, [x], t :: _ => match P.underlying t, ev st x with
      | some .string, some (.str s) => ok1 (.int .i64 (s.size : Int)) st
      | some (.slice _), some v => match lenOf st.heap v with | some n => ok1 (.int .i64 (n : Int)) st | none => none
      | _, _ => none
    | .append, [x, y], [t, t'] => match ev st x, ev st y with
      | some x, some y => cn (appT P t') (stAppend P t x y st) (cn (appZT P t') (stAppZ P t x y st) none)
      | _, _ => none
    | .copy, [x, y], t :: _ => match ev st x, ev st y with | some x, some y => stCopy P t x y st | _, _ => none
    | .min, [x, y], _ => match ev st x, ev st y with | some (.int k a), some (.int k' b) => cn (decide (k = k')) (ok1 (.int k (cn (decide (b < a)) b a)) st) none | _, _ => none
    | .max, [x, y], _ => match ev st x, ev st y with | some (.int k a), some (.int k' b) => cn (decide (k = k')) (ok1 (.int k (cn (decide (a < b)) b a)) st) none | _, _ => none
    | _, _, _ => none
  | _ => none

/-- What only looks. -/
def pureOp (P : Program) (o : Oper) : Bool :=
  match o.op with
  | .move _ | .assign _ | .pick _ _ _ | .build _ _ | .load _ _ | .nilCheck _ | .binOp _ _ _ _ _ | .unOp _ _ _ | .makeFunc _ _ _ | .slice _ _ _ _ none | .fieldAddr _ _ _ | .field _ _ _ | .indexAddr _ _ _ | .index _ _ _ | .extract _ _ => true
  | .convert _ d _ => match P.underlying d with | some (.int _) => true | _ => false
  | .call { callee := .builtin b, args := _, argTypes := _ } => match b with | .len | .min | .max => true | _ => false
  | _ => false
/-- What writes to memory that was there. -/
def wrOp (o : Oper) : Bool :=
  match o.op with
  | .store _ _ _ => true
  | .call { callee := .builtin .append, args := _, argTypes := _ } => true
  | .call { callee := .builtin .copy, args := _, argTypes := _ } => true
  | _ => false

/-- The element type of an append. -/
def appE (P : Program) (o : Oper) : Option Nat :=
  match o.op with
  | .call { callee := .builtin .append, args := _, argTypes := ts } => match ts.toList with
    | t :: _ => match P.underlying t with | some (.slice e) => some e | _ => none
    | _ => none
  | _ => none
/-- What writes to memory that was there: to any (none), or to a block of type t (some t). -/
def qFree : Option Nat → Bool
  | some t => Nat.beq t 4294967295 | none => false
/-- What does not look at memory. -/
def nomem (o : Oper) : Bool :=
  match o.op with
  | .move _ | .assign _ | .pick _ _ _ | .fieldAddr _ _ _ | .field _ _ _ | .index _ _ _ | .extract _ _ | .unOp _ _ _ | .makeFunc _ _ _ | .build _ _ => true
  | _ => false
def wrQ (P : Program) (q : Option Nat) (o : Oper) : Bool :=
  cn (qFree q) false (match q with
  | none => wrOp o
  | some t => cn (wrOp o) (match appE P o with | some e => Nat.beq e t | none => true) false)

/-! ### Calls -/
/-- How an argument is handed over: read only; a whole row that the call writes in place; a whole row that is given away; a pointer to a box. -/
inductive Mode where
  | val | chg | give | pbox (t : Nat)
/-- How arguments are made of parts: one by itself; an aggregate; a literal with what it has captured. -/
inductive Grp where
  | one | agg (n : Nat) | clo (f n : Nat)
structure Ctr where
  D : Type
  grp : List Grp
  modes : List Mode
  call : List AV → Option D
  ret : D → List AV
  outs : D → List Root
  nd : Option (List AV → Option (D → Prop))
noncomputable def bindC {R : Type} (c : Ctr) (ts : List AV) (κ : c.D → Option R) : Option R :=
  match c.nd with
  | none => (c.call ts).bind κ
  | some S => match S ts with | some p => YtlkbmcmglkdciaaE.nd p κ | none => none
structure Ctx where
  P : Program
  C : List (Nat × Ctr)
  k : Nat
  np : Nat
  lv : List (Nat × List (Nat × Bool))

def ctrOf : List (Nat × Ctr) → Nat → Option Ctr
  | [], _ => none
  | (g, c) :: l, f => cn (Nat.beq g f) (some c) (ctrOf l f)

/-- The roots that stay the caller's, and those that are given. -/
def stayR : List Mode → List AV → List Root
  | .chg :: ms, .row e k xs :: l => .rows e k xs :: stayR ms l
  | .pbox t :: ms, .agg vs :: l => .box t vs :: stayR ms l
  | _ :: ms, _ :: l => stayR ms l
  | _, _ => []
def giveR : List Mode → List AV → List Root
  | .give :: ms, .row e k xs :: l => .rows e k xs :: giveR ms l
  | _ :: ms, _ :: l => giveR ms l
  | _, _ => []
/-- The parameters as the callee finds them; its roots that stay are numbered from s on, those that are given from g on. -/
def enterV : List Mode → List AV → Nat → Nat → List AV
  | .chg :: ms, .row _ _ _ :: l, s, g => .ref s :: enterV ms l (s + 1) g
  | .pbox _ :: ms, .agg _ :: l, s, g => .ptr s 0 0 :: enterV ms l (s + 1) g
  | .give :: ms, .row _ _ _ :: l, s, g => .ref g :: enterV ms l s (g + 1)
  | .val :: ms, v :: l, s, g => v :: enterV ms l s g
  | _, _, _, _ => []
def group : List Grp → List AV → List AV
  | [], l => l
  | .one :: g, v :: l => v :: group g l
  | .one :: _, [] => []
  | .agg n :: g, l => .agg (takeN n l) :: group g (dropN n l)
  | .clo f n :: g, l => .clo f (takeN n l) :: group g (dropN n l)
def ungroup : List Grp → List AV → Option (List AV)
  | [], l => some l
  | .one :: g, v :: l => match ungroup g l with | some r => some (v :: r) | none => none
  | .agg n :: g, .agg vs :: l => cn (Nat.beq (lenN vs) n) (match ungroup g l with | some r => some (vs ++ r) | none => none) none
  | .clo f n :: g, .clo f' vs :: l => cn (Nat.beq (lenN vs) n && Nat.beq f f') (match ungroup g l with | some r => some (vs ++ r) | none => none) none
  | _, _ => none
def zeros : Nat → List Nat → List Nat
  | 0, l => l
  | n + 1, l => 0 :: zeros n l
def groupT : List Grp → List Nat → List Nat
  | [], l => l
  | .one :: g, t :: l => t :: groupT g l
  | .agg n :: g, _ :: l => zeros n (groupT g l)
  | .clo _ n :: g, _ :: l => zeros n (groupT g l)
  | _ :: _, [] => []
/-- Views into what lies in rows that were handed over to be written are forgotten. -/
def flatR (h : List Root) (n : Nat) : Bool := match getN h n with | some (.rows _ k _) => flat k | _ => true
def subsE (h : List Root) : List Nat → List (Nat × AV) → List (Nat × AV)
  | [], env => env
  | n :: ns, env => subsE h ns (cn (flatR h n) env (forgetS n env))
def heapC (ms : List Mode) (ts : List AV) : List Root := .dead :: (stayR ms ts ++ giveR ms ts)

def toVals (P : Program) (h : List Root) : List AV → Option (List AV)
  | [] => some []
  | v :: l => match toVal P h 0 v, toVals P h l with | some w, some ws => some (w :: ws) | _, _ => none
/-- An argument as the callee sees it. -/
def argOf (P : Program) (h : List Root) : Mode → Nat → AV → Option AV
  | .val, t, v => match v with
    | .agg vs => match toVals P h vs with | some ws => some (.agg ws) | none => none
    | v => toVal P h t v
  | .chg, _, .ref n => match getN h n with | some (.rows e k xs) => some (.row e k xs) | _ => none
  | .give, _, .ref n => match getN h n with | some (.rows e k xs) => some (.row e k xs) | _ => none
  | .give, _, .nil e k => some (.row e k [])
  | .pbox t, _, .ptr n 0 0 => match getN h n with
    | some (.box t' vs) => match toVals P h vs with | some ws => cn (Nat.beq t t') (some (.agg ws)) none | none => none
    | _ => none
  | _, _, _ => none
def tsOf (P : Program) (h : List Root) : List Mode → List Nat → List AV → Option (List AV)
  | [], _, [] => some []
  | m :: ms, t :: ts, v :: l => match argOf P h m t v, tsOf P h ms ts l with | some w, some r => some (w :: r) | _, _ => none
  | _, _, _ => none
/-- The caller's roots that stay, that are given (none: nil), that are looked at. -/
def nsOf : List Mode → List AV → List Nat
  | .chg :: ms, .ref n :: l => n :: nsOf ms l
  | .pbox _ :: ms, .ptr n _ _ :: l => n :: nsOf ms l
  | _ :: ms, _ :: l => nsOf ms l
  | _, _ => []
def gsOf : List Mode → List AV → List (Option Nat)
  | .give :: ms, .ref n :: l => some n :: gsOf ms l
  | .give :: ms, .nil _ _ :: l => none :: gsOf ms l
  | _ :: ms, _ :: l => gsOf ms l
  | _, _ => []
def somes : List (Option Nat) → List Nat
  | [] => []
  | some n :: l => n :: somes l
  | none :: l => somes l
def looks : AV → List Nat
  | .ref n | .win n _ _ | .sub n _ _ | .swin n _ _ _ _ => [n]
  | _ => []
def looksL : List AV → List Nat
  | [] => []
  | v :: l => looks v ++ looksL l
def looksA (h : List Root) : Mode → AV → List Nat
  | .val, .agg vs => looksL vs
  | .val, v => looks v
  | .pbox _, .ptr n _ _ => match getN h n with | some (.box _ vs) => looksL vs | _ => []
  | _, _ => []
def looksOf (h : List Root) : List Mode → List AV → List Nat
  | m :: ms, v :: l => looksA h m v ++ looksOf h ms l
  | _, _ => []
def apartN : List Nat → List Nat → Bool
  | [], _ => true
  | n :: l, hs => cn (notIn n hs) (apartN l hs) false
def isE {A : Type} : List A → Bool
  | [] => true | _ => false

/-- What a call gives back may hold rows that are read only, or none. -/
def resV (z : Bool) (m : Nat) : AV → Bool
  | .ref n => Nat.ble 1 n && Nat.ble n m
  | .int _ _ | .bool _ | .str _ | .nil _ _ | .nilc | .fn _ | .nilp | .own _ _ _ => true
  | .row _ _ _ => z
  | _ => false
def resA (z : Bool) (m : Nat) : AV → Bool
  | .agg vs => vs.all (resV z m)
  | v => resV z m v
def boxV (z : Bool) : AV → Bool
  | .int _ _ | .bool _ | .str _ | .nil _ _ | .fn _ => true
  | .row _ _ _ => z
  | _ => false
def outR (z : Bool) : Root → Bool
  | .box _ vs => vs.all (boxV z)
  | _ => true
/-- The caller's number of a root that the callee found at its start. -/
def backQ : List Nat → Nat → Nat
  | _, 0 => 0
  | [], _ + 1 => 0
  | a :: _, 1 => a
  | _ :: l, n + 2 => backQ l (n + 1)
/-- New rows that a call has made get their numbers, from b on; roots that it found go by q. -/
def seatC (q : Nat → Nat) (b : Nat) : List AV → List AV × Nat
  | [] => ([], b)
  | .own _ _ _ :: l => let r := seatC q (b + 1) l; (.ref b :: r.1, r.2)
  | .ref n :: l => let r := seatC q b l; (.ref (q n) :: r.1, r.2)
  | v :: l => let r := seatC q b l; (v :: r.1, r.2)
def seatL (q : Nat → Nat) (b : Nat) : List AV → List AV × Nat
  | [] => ([], b)
  | .agg vs :: l => let r := seatC q b vs; let s := seatL q r.2 l; (.agg r.1 :: s.1, s.2)
  | .own _ _ _ :: l => let s := seatL q (b + 1) l; (.ref b :: s.1, s.2)
  | .ref n :: l => let s := seatL q b l; (.ref (q n) :: s.1, s.2)
  | v :: l => let s := seatL q b l; (v :: s.1, s.2)
def newC : List AV → List Root
  | [] => []
  | .own e k xs :: l => .rows e k xs :: newC l
  | _ :: l => newC l
def newL : List AV → List Root
  | [] => []
  | .agg vs :: l => newC vs ++ newL l
  | .own e k xs :: l => .rows e k xs :: newL l
  | _ :: l => newL l
def packR : List AV → AV
  | [v] => v
  | vs => .tup vs
/-- What the roots that stayed hold now. -/
def putOuts (h : List Root) : List Nat → List Root → Option (List Root)
  | [], [] => some h
  | n :: ns, r :: l => match r with
    | .dead => none
    | .hol _ _ _ _ => none
    | r => putOuts (setN h n r) ns l
  | _, _ => none

/-- A call, its arguments laid out. -/
noncomputable def callA {R : Type} (X : Ctx) (c : Ctr) (tys : List Nat) (o : Oper) (as : List AV) (st : St) (κ : St → Option R) : Option R :=
  match tsOf X.P st.heap c.modes tys as with
  | some ts =>
    let ns := nsOf c.modes as; let gs := somes (gsOf c.modes as); let vs := looksOf st.heap c.modes as
    cn (nodupN (ns ++ gs) && apartN vs (ns ++ gs)) (bindC c ts fun d =>
      cn ((c.ret d).all (resA (isE vs) (lenN ns)) && (c.outs d).all (outR (isE vs))) (
        let st1 := kills gs st
        match putOuts st1.heap ns (c.outs d) with
        | some h1 => match ({ st1 with env := subsE st1.heap ns st1.env, heap := h1 ++ newL (c.ret d) } : St).put o.dst (packR (seatL (backQ ns) (lenN h1) (c.ret d)).1) with
          | some st' => κ st'
          | none => none
        | none => none) none) none
  | none => none
/-! An inner row that a call writes: for the call's time it is a root of its own, and the row that it lies in is dead. -/
def subArg : List Mode → List AV → Option (Nat × Nat × Nat)
  | .chg :: _, .sub n i q :: _ => some (n, i, q)
  | _ :: ms, _ :: l => subArg ms l
  | _, _ => none
def subRep (n m : Nat) : List Mode → List AV → List AV
  | .chg :: _, .sub _ _ _ :: l => .ref m :: forgetL n l
  | _ :: ms, v :: l => forget n v :: subRep n m ms l
  | _, l => forgetL n l
noncomputable def callS {R : Type} (X : Ctx) (c : Ctr) (tys : List Nat) (o : Oper) (n i q : Nat) (as : List AV) (st : St) (κ : St → Option R) : Option R :=
  match readSl st.heap (.sub n i q), getN st.heap n with
  | some s, some (.rows e k xs) => cn (flat s.k && flat2 k) (
      let as' := subRep n (lenN st.heap) c.modes as
      callA X c tys o as' (takeS n s st) fun st2 => match fillT (nsOf c.modes as') (somes (gsOf c.modes as')) n i q e k xs (lenN st.heap) o.dst st st2 with | some st3 => κ st3 | none => none) none
  | _, _ => none

/-! An inner row that is given away: its place is a hole till something is put there. -/
def giveArg : List Mode → List AV → Option (Nat × Nat × Nat)
  | .give :: _, .sub n i q :: _ => some (n, i, q)
  | _ :: ms, _ :: l => giveArg ms l
  | _, _ => none
def giveRep (n m : Nat) : List Mode → List AV → List AV
  | .give :: _, .sub _ _ _ :: l => .ref m :: l.map (forgetS1 n)
  | _ :: ms, v :: l => forgetS1 n v :: giveRep n m ms l
  | _, l => l.map (forgetS1 n)
noncomputable def callG {R : Type} (X : Ctx) (c : Ctr) (tys : List Nat) (o : Oper) (n i q : Nat) (as : List AV) (st : St) (κ : St → Option R) : Option R :=
  match readSl st.heap (.sub n i q), getN st.heap n with
  | some s, some (.rows e k xs) => cn (flat s.k && (Nat.beq q 0 && Nat.beq k.sz 1)) (callA X c tys o (giveRep n (lenN st.heap) c.modes as) (takeH n i e k xs s st) κ) none
  | _, _ => none

noncomputable def callX {R : Type} (X : Ctx) (f : Nat) (o : Oper) (as0 : List AV) (st : St) (κ : St → Option R) : Option R :=
  match ctrOf X.C f, X.P.funcs[f]? with
  | some c, some fn => match ungroup c.grp as0 with
    | some as =>
      let tys := groupT c.grp (fn.params.toList ++ zeros (lenN as0 - lenN fn.params.toList) [])
      match subArg c.modes as with
      | none => match giveArg c.modes as with
        | none => callA X c tys o as st κ
        | some (n, i, q) => callG X c tys o n i q as st κ
      | some (n, i, q) => callS X c tys o n i q as st κ
    | none => none
  | _, _ => none

noncomputable def opX {R : Type} (X : Ctx) (o : Oper) (st : St) (κ : St → Option R) : Option R :=
  match o.op with
  | .call { callee := .value f, args, argTypes := _ } => match ev st f, evs st args.toList with
    | some (.fn g), some as => callX X g o as st κ
    | some (.clo g vs), some as => callX X g o (as ++ vs) st κ
    | _, _ => none
  | _ => match stepX X.P o st with
    | some (c, v, st') => gd c (match st'.put o.dst v with | some s => κ s | none => none)
    | none => none

/-- An operation with its guard. -/
noncomputable def guardX {R : Type} (X : Ctx) (ops : List Oper) (o : Oper) (st : St) (κ : St → Option R) : Option R :=
  match o.guard with
  | none => opX X o st κ
  | some (j, want) => match getN ops j with
    | some g => match g.dst with
      | some t => match lk st.env t with
        | .bool b =>
          let go (v : Bool) : Option R := cn (cn v want (!want)) (opX X o { st with env := (t, .bool v) :: st.env } κ)
            (match ({ st with env := (t, .bool v) :: st.env } : St).put o.dst (.tup []) with | some s => κ s | none => none)
          cn b (go true) (go false)
        | .tup [] => match st.put o.dst (.tup []) with | some s => κ s | none => none
        | _ => none
      | none => none
    | none => none
noncomputable def opsX {R : Type} (X : Ctx) (ops : List Oper) : List Oper → St → (St → Option R) → Option R
  | [], st, κ => κ st
  | o :: os, st, κ => guardX X ops o st fun st' => opsX X ops os st' κ

/-! ### A region whose order is drawn -/
def bindsA (e : Edge) : Bool := match e.ground with | .textOnly _ | .gcOnly _ => false | _ => true
def readyB (done : List Nat) (i : Nat) (o : Oper) : Bool := notIn i done && o.after.toList.all fun e => !bindsA e || !notIn e.on done
def readyL (done : List Nat) : Nat → List Oper → List Nat
  | _, [] => []
  | i, o :: l => cn (readyB done i o) (i :: readyL done (i + 1) l) (readyL done (i + 1) l)
def waitsB (ops : List Oper) : Nat → Nat → Nat → Bool
  | 0, _, _ => false
  | n + 1, j, i => match getN ops j with
    | some o => o.after.toList.any fun e => bindsA e && (Nat.beq e.on i || waitsB ops n e.on i)
    | none => false
def isVal : Mode → Bool
  | .val => true | _ => false
/-- What may write to memory that was there. -/
def wrX (X : Ctx) (q : Option Nat) (o : Oper) : Bool :=
  cn (qFree q) false (match o.op with
  | .call { callee := .value f, args := _, argTypes := _ } => match f with
    | .func g => match ctrOf X.C g with | some c => !(c.modes.all isVal) | none => true
    | _ => true
  | _ => wrQ X.P q o)
/-- A load from a box: the type of the block that it looks at. -/
def loadQ (st : St) (o : Oper) : Option Nat :=
  cn (nomem o) (some 4294967295) (match o.guard, o.op with
  | none, .load _ x => match ev st x with
    | some (.ptr n _ _) => match getN st.heap n with | some (.box t _) => cn (Nat.beq t 4294967295) none (some t) | _ => none
    | _ => none
  | _, _ => none)
/-- Number i may be taken first: whoever has not come up yet waits for it or is apart from it, and who writes waits for it. -/
def freeL (X : Ctx) (q : Option Nat) (ops : Array Oper) (done : List Nat) (i : Nat) (oi : Oper) : Nat → List Oper → Bool
  | _, [] => true
  | j, oj :: l => cn (Nat.beq j i || !notIn j done || ((oj.after.toList.any (fun e => bindsA e && Nat.beq e.on i) || oi.apart ops oj) && (!wrX X q oj || waitsB ops.toList 8 j i)))
      (freeL X q ops done i oi (j + 1) l) false
def pickB (X : Ctx) (st : St) (ops : Array Oper) (done : List Nat) : List Nat → Option Nat
  | [] => none
  | i :: l => match getN ops.toList i with
    | some o => cn (pureOp X.P o && freeL X (loadQ st o) ops done i o 0 ops.toList) (some i) (pickB X st ops done l)
    | none => none
noncomputable def drawGo {R : Type} (X : Ctx) (ops : Array Oper) : Nat → List Nat → St → (St → Option R) → Option R
  | 0, done, st, κ => cn (isE (readyL done 0 ops.toList)) (κ st) none
  | n + 1, done, st, κ =>
    let one (i : Nat) : Option R := match getN ops.toList i with
      | some o => guardX X ops.toList o st fun st' => drawGo X ops n (i :: done) st' κ
      | none => none
    match readyL done 0 ops.toList with
    | [] => κ st
    | r :: rs => match pickB X st ops done (r :: rs) with
      | some i => one i
      | none => bothAll ((r :: rs).map fun i => match getN ops.toList i with
        | some o => guardX X ops.toList o st fun st' => drawGo X ops n (i :: done) st' κ
        | none => none)
noncomputable def drawX {R : Type} (X : Ctx) (ops : Array Oper) (st : St) (κ : St → Option R) : Option R :=
  cn (X.P.follows .mixedOrders && Region.noSelect ops) (drawGo X ops ops.size [] st κ) none

inductive XE where
  | normal | exit (id : Nat) | ret

/-! ### The head of a loop: what is kept; roots are numbered anew as they are met -/
structure Ren where
  m : List (Nat × Nat)
  h : List Root
def renGet : List (Nat × Nat) → Nat → Option Nat
  | [], _ => none
  | (a, b) :: l, n => cn (Nat.beq a n) (some b) (renGet l n)
def renRow (old : List Root) (n : Nat) (r : Ren) : Option (Nat × Ren) :=
  match renGet r.m n with
  | some b => some (b, r)
  | none => match rowsOf old n with
    | some s => some (lenN r.h, ⟨(n, lenN r.h) :: r.m, hpush r.h (.rows s.e s.k s.xs)⟩)
    | none => none
def renCell (old : List Root) (v : AV) (r : Ren) : Option (AV × Ren) :=
  match v with
  | .ref n => match renRow old n r with | some (b, r') => some (.ref b, r') | none => none
  | .win n lo len => match renRow old n r with | some (b, r') => some (.win b lo len, r') | none => none
  | v => cn (cellOk v) (some (v, r)) none
def renCells (old : List Root) : List AV → Ren → Option (List AV × Ren)
  | [], r => some ([], r)
  | v :: l, r => match renCell old v r with
    | some (w, r1) => match renCells old l r1 with | some (ws, r2) => some (w :: ws, r2) | none => none
    | none => none
def renBox (old : List Root) (n : Nat) (r : Ren) : Option (Nat × Ren) :=
  match renGet r.m n with
  | some b => some (b, r)
  | none => match getN old n with
    | some (.box t vs) => match renCells old vs r with
      | some (ws, r') => some (lenN r'.h, ⟨(n, lenN r'.h) :: r'.m, hpush r'.h (.box t ws)⟩)
      | none => none
    | _ => none
def refless : AV → Bool
  | .int _ _ | .bool _ | .str _ | .nilc | .nil _ _ | .row _ _ _ | .sptr _ _ _ _ | .fn _ | .nilp | .undef => true
  | _ => false
def renV (old : List Root) (v : AV) (r : Ren) : Option (AV × Ren) :=
  match v with
  | .ref n => match renRow old n r with | some (b, r') => some (.ref b, r') | none => none
  | .win n lo len => match renRow old n r with | some (b, r') => some (.win b lo len, r') | none => none
  | .sub n i c => match renRow old n r with | some (b, r') => some (.sub b i c, r') | none => none
  | .ptr n i c => match rowsOf old n with
    | some _ => match renRow old n r with | some (b, r') => some (.ptr b i c, r') | none => none
    | none => match renBox old n r with | some (b, r') => some (.ptr b i c, r') | none => none
  | v => cn (refless v) (some (v, r)) none
def renVs (old : List Root) : List AV → Ren → Option (List AV × Ren)
  | [], r => some ([], r)
  | v :: l, r => match renV old v r with
    | some (w, r1) => match renVs old l r1 with | some (ws, r2) => some (w :: ws, r2) | none => none
    | none => none
def normL (st : St) : List (Nat × Bool) → Ren → Option (List (Nat × AV) × Ren)
  | [], r => some ([], r)
  | (t, own) :: l, r => match own, lk st.env t with
    | true, .nil e k => match normL st l ⟨r.m, hpush r.h (.rows e k [])⟩ with | some (env, r') => some ((t, .ref (lenN r.h)) :: env, r') | none => none
    | _, .clo f vs => match renVs st.heap vs r with
      | some (ws, r1) => match normL st l r1 with | some (env, r2) => some ((t, .clo f ws) :: env, r2) | none => none
      | none => none
    | _, v => match renV st.heap v r with
      | some (w, r1) => match normL st l r1 with | some (env, r2) => some ((t, w) :: env, r2) | none => none
      | none => none
/-- The roots that stay as they are: root 0, and what was handed over to be written. -/
def fixR : Nat → List Root → Option (List Root)
  | 0, _ => some []
  | n + 1, r :: l => match fixR n l with
    | some l' => match r with
      | .box t vs => cn (vs.all refless) (some (r :: l')) none
      | .hol _ _ _ _ => none
      | r => some (r :: l')
    | none => none
  | _, _ => none
def fixM : Nat → List (Nat × Nat)
  | 0 => []
  | n + 1 => (n, n) :: fixM n
/-- A nil cell of a box becomes a row of its own with nothing in it. -/
def freshCell (n j : Nat) (st : St) : St :=
  match getN st.heap n with
  | some (.box t vs) => match getN vs j with
    | some (.nil e k) => { st with heap := setN (hpush st.heap (.rows e k [])) n (.box t (setN vs j (.ref (lenN st.heap)))) }
    | _ => st
  | _ => st
def freshCells (n : Nat) : Nat → St → St
  | 0, st => st
  | j + 1, st => freshCells n j (freshCell n j st)
def freshBox (n : Nat) (st : St) : St :=
  match getN st.heap n with
  | some (.box _ vs) => freshCells n (lenN vs) st
  | _ => st
def freshL : List (Nat × Bool) → St → St
  | [], st => st
  | (t, own) :: l, st => match own, lk st.env t with
    | true, .ptr n _ _ => freshL l (freshBox n st)
    | _, _ => freshL l st
def normX {R : Type} (np : Nat) (lv : List (Nat × Bool)) (st0 : St) (κ : St → Option R) : Option R :=
  let st := freshL lv st0
  match fixR np st.heap with
  | some h0 => cn (Nat.ble st.nf np) (match normL st lv ⟨fixM np, h0⟩ with
    | some (env, r) => κ ⟨env, r.h, st.nt, st.nf⟩
    | none => none) none
  | none => none
def iterX {R : Type} (np : Nat) (lv : List (Nat × Bool)) (B : St → (XE → St → Option R) → Option R) : Nat → St → (XE → St → Option R) → Option R
  | 0, _, _ => none
  | n + 1, st, κ => B st fun e st' => match e with
    | .normal => normX np lv st' fun st2 => iterX np lv B n st2 κ
    | e => κ e st'
/-- One round ahead of the loop's head. -/
def peelX {R : Type} (np : Nat) (lv : List (Nat × Bool)) (B : St → (XE → St → Option R) → Option R) (n : Nat) (st : St) (κ : XE → St → Option R) : Option R :=
  B st fun e st' => match e with
    | .normal => normX np lv st' fun st2 => iterX np lv B n st2 κ
    | e => κ e st'
def lvOf : List (Nat × List (Nat × Bool)) → Nat → List (Nat × Bool)
  | [], _ => []
  | (i, l) :: r, id => cn (Nat.beq i id) l (lvOf r id)
def blockK {R : Type} (id : Nat) (κ : XE → St → Option R) : XE → St → Option R
  | .exit j, st => cn (Nat.beq j id) (κ .normal st) (κ (.exit j) st)
  | e, st => κ e st
/-- The first region of a code. -/
def lead : Code → Option Nat
  | .region id _ _ => some id
  | .seq a _ => lead a
  | _ => none
def cutGet : List (Nat × List (Nat × Bool)) → Nat → Option (Nat × List (Nat × Bool))
  | [], _ => none
  | (i, l) :: r, id => cn (Nat.beq i id) (some (i, l)) (cutGet r id)
/-- Where a code is cut: its first region's number, raised, stands among the heads. -/
def cutOf (lv : List (Nat × List (Nat × Bool))) (b : Code) : Option (Nat × List (Nat × Bool)) :=
  match lead b with
  | some i => cutGet lv (i + 1000000)
  | none => none
def cutK {R : Type} (_ : Nat) (f : St → Option R) (st : St) : Option R := f st
def contX {R : Type} (X : Ctx) (b : Code) (f : St → Option R) (st : St) : Option R :=
  match cutOf X.lv b with
  | some (id, lv) => normX X.np lv st fun st2 => cutK id f st2
  | none => f st
noncomputable def codeX {R : Type} (X : Ctx) : Code → St → (XE → St → Option R) → Option R
  | .skip, st, κ => κ .normal st
  | .region _ ops d, st, κ => cn d (drawX X ops st (κ .normal)) (opsX X ops.toList ops.toList st (κ .normal))
  | .seq a b, st, κ => codeX X a st fun e st' => match e with
    | .normal => contX X b (fun s => codeX X b s κ) st'
    | e => κ e st'
  | .cond c a b, st, κ => match ev st c with
    | some (.bool v) => cn v (codeX X a st κ) (codeX X b st κ)
    | some (.mayb v) => cn v (both (codeX X a st κ) (codeX X b st κ)) (codeX X b st κ)
    | _ => none
  | .block id (.loop b), st, κ => match cutGet X.lv (id + 2000000) with
    | some _ => peelX X.np (lvOf X.lv id) (fun s k => codeX X b s k) X.k st (blockK id κ)
    | none => normX X.np (lvOf X.lv id) st fun st1 => iterX X.np (lvOf X.lv id) (fun s k => codeX X b s k) X.k st1 (blockK id κ)
  | .block id b, st, κ => codeX X b st (blockK id κ)
  | .exit id, st, κ => κ (.exit id) st
  | .ret, st, κ => κ .ret st
  | _, _, _ => none

/-- The head of the loop in block 'id', with so many rounds left in the loops around it (the outermost first). -/
noncomputable def headX {R : Type} (X : Ctx) (id : Nat) : Code → List Nat → (XE → St → Option R) → Option (Nat → St → Option R)
  | .seq a b, ns, κ => match headX X id a ns (fun e st' => match e with | .normal => contX X b (fun s => codeX X b s κ) st' | e => κ e st') with
    | some r => some r
    | none => match cutOf X.lv b with
      | some (j, _) => cn (Nat.beq j id) (some fun _ st => cutK j (fun s => codeX X b s κ) st) (headX X id b ns κ)
      | none => headX X id b ns κ
  | .cond _ a b, ns, κ => match headX X id a ns κ with | some r => some r | none => headX X id b ns κ
  | .block j (.loop b), ns, κ => cn (Nat.beq j id) (some fun n st => iterX X.np (lvOf X.lv j) (fun s k => codeX X b s k) n st (blockK j κ))
      (match ns with
      | n :: ns => headX X id b ns (fun e st' => match e with | .normal => normX X.np (lvOf X.lv j) st' fun st2 => iterX X.np (lvOf X.lv j) (fun s k => codeX X b s k) n st2 (blockK j κ) | e => blockK j κ e st')
      | [] => none)
  | .block j b, ns, κ => headX X id b ns (blockK j κ)
  | _, _, _ => none

/-! ### A function -/
def nfC (ms : List Mode) (ts : List AV) : Nat := 1 + (stayR ms ts).length
def enumE : Nat → List AV → List (Nat × AV)
  | _, [] => []
  | i, v :: l => (i, v) :: enumE (i + 1) l
def startX (fn : Func) (g : List Grp) (ms : List Mode) (ts : List AV) : St :=
  let l := group g (enterV ms ts 1 (nfC ms ts))
  ⟨enumE 0 l, heapC ms ts, lenN l + (fn.ntmps - lenN l), nfC ms ts⟩
/-- What the results hold. -/
def resVs (P : Program) (st : St) : List ResultVar → Option (List AV)
  | [] => some []
  | .tmp t :: l => match lk st.env t, resVs P st l with
    | .undef, _ => none
    | v, some vs => some (v :: vs)
    | _, _ => none
  | .cell a t :: l => match stLoad P t (lk st.env a) st, resVs P st l with
    | some (true, v, _), some vs => some (v :: vs)
    | _, _ => none
def retP : AV → Bool
  | .int _ _ | .bool _ | .str _ | .row _ _ _ | .fn _ | .nilp => true
  | _ => false
/-- A result, as it is given back: a root that is the call's own goes with it. -/
def outV (old : List Root) (v : AV) (r : Ren) : Option (AV × Ren) :=
  match v with
  | .ref n => match renGet r.m n, rowsOf old n with
    | none, some s => some (.own s.e s.k s.xs, ⟨(n, lenN r.h) :: r.m, hpush r.h (.rows s.e s.k s.xs)⟩)
    | some b, some _ => some (.ref b, r)
    | _, _ => none
  | .nil e k => some (.own e k [], ⟨r.m, hpush r.h (.rows e k [])⟩)
  | v => cn (retP v) (some (v, r)) none
def outVs (old : List Root) : List AV → Ren → Option (List AV × Ren)
  | [], r => some ([], r)
  | v :: l, r => match outV old v r with
    | some (w, r1) => match outVs old l r1 with | some (ws, r2) => some (w :: ws, r2) | none => none
    | none => none
def outAs (old : List Root) : List AV → Ren → Option (List AV × Ren)
  | [], r => some ([], r)
  | .agg vs :: l, r => match outVs old vs r with
    | some (w, r1) => match outAs old l r1 with | some (ws, r2) => some (.agg w :: ws, r2) | none => none
    | none => none
  | v :: l, r => match outV old v r with
    | some (w, r1) => match outAs old l r1 with | some (ws, r2) => some (w :: ws, r2) | none => none
    | none => none
def tailN {A : Type} : List A → List A
  | [] => [] | _ :: l => l
inductive CSh where
  | int (k : IntKind) | bool | str | row (e : Nat) (k : Kind) | own (e : Nat) (k : Kind) | fn (f : Nat) | arg (n : Nat)
inductive Sh where
  | one (c : CSh) | agg (l : List CSh)
/-! Results that are given as rows by value: what they lie in is never written again. -/
def rowB (h : List Root) (n : Nat) : Bool := match getN h n with | some (.box _ _) => false | _ => true
def keepV (h : List Root) (ns : List Nat) : AV → AV
  | .ref n => cn (notIn n ns && rowB h n) (.ref n) .undef
  | .nil e k => .nil e k
  | v => cn (retP v) v .undef
def thawC (h : List Root) (g : AV → AV) : CSh → AV → AV
  | .row _ _, v => match readSl h v with | some s => .row s.e s.k s.xs | none => g v
  | _, v => g v
def thawCs (h : List Root) (g : AV → AV) : List CSh → List AV → List AV
  | c :: cs, v :: vs => thawC h g c v :: thawCs h g cs vs
  | _, vs => vs.map g
def thawS (h : List Root) (g : AV → AV) : Sh → AV → AV
  | .agg l, .agg vs => .agg (thawCs h g l vs)
  | .one c, v => thawC h g c v
  | _, v => g v
def thawSs (h : List Root) (g : AV → AV) : List Sh → List AV → List AV
  | c :: cs, v :: vs => thawS h g c v :: thawSs h g cs vs
  | _, vs => vs.map g
def killC : CSh → AV → List Nat
  | .row _ _, v => looks v
  | _, _ => []
def killCs : List CSh → List AV → List Nat
  | c :: cs, v :: vs => killC c v ++ killCs cs vs
  | _, _ => []
def killS : Sh → AV → List Nat
  | .agg l, .agg vs => killCs l vs
  | .one c, v => killC c v
  | _, _ => []
def killSs : List Sh → List AV → List Nat
  | c :: cs, v :: vs => killS c v ++ killSs cs vs
  | _, _ => []
def killR (np : Nat) (ns : List Nat) (i : Nat) : Root → Root
  | .rows e k xs => cn (notIn i ns) (.rows e k xs) .dead
  | .box t vs => cn (Nat.blt i np) (cn (notIn i ns) (cn (vs.all refless) (.box t vs) .dead) .dead) .dead
  | .dead => .dead
  | .hol e k xs j => cn (notIn i ns) (.hol e k xs j) .dead
def killF (np : Nat) (ns : List Nat) : Nat → List Root → List Root
  | _, [] => []
  | i, r :: l => killR np ns i r :: killF np ns (i + 1) l
/-- Nothing but boxes is handed over. -/
def noHand : List Mode → Bool
  | [] => true
  | .val :: l => noHand l
  | .pbox _ :: l => noHand l
  | _ => false
def isBox : Root → Bool | .box _ _ => true | _ => false
/-- The boxes are there, and none of them is among those. -/
def boxN (ns : List Nat) (h : List Root) : Nat → Bool
  | 0 => notIn 0 ns
  | n + 1 => cn (notIn (n + 1) ns) (match getN h (n + 1) with | some r => cn (isBox r) (boxN ns h n) false | none => false) false
/-- A function's end. -/
def outF {D : Type} (np : Nat) (ex : List AV → List Root → Option D) (vs : List AV) (h : List Root) : Option D :=
  match fixR np h with
  | some h0 => match outAs h vs ⟨fixM np, h0⟩ with
    | some (ws, _) => ex ws (tailN h0)
    | none => none
  | none => none
def outX {D : Type} (P : Program) (fn : Func) (np : Nat) (ms : List Mode) (rs : List Sh) (ex : List AV → List Root → Option D) (e : XE) (st : St) : Option D :=
  match e with
  | .exit _ => none
  | _ => match resVs P st fn.results.toList with
    | some vs => match killSs rs vs with
      | [] => outF np ex (thawSs st.heap id rs vs) st.heap
      | ns => cn (noHand ms) (cn (boxN ns st.heap (np - 1)) (outF np ex (thawSs st.heap (keepV st.heap ns) rs vs) (killF np ns 0 st.heap)) none) none
    | none => none
noncomputable def runX {D : Type} (P : Program) (C : List (Nat × Ctr)) (k : Nat) (lv : List (Nat × List (Nat × Bool))) (f : Nat) (g : List Grp) (ms : List Mode) (rs : List Sh) (ex : List AV → List Root → Option D) (ts : List AV) : Option D :=
  match P.funcs[f]? with
  | some fn => match fn.body with
    | some c => codeX ⟨P, C, k, nfC ms ts, lv⟩ c (startX fn g ms ts) (outX P fn (nfC ms ts) ms rs ex)
    | none => none
  | none => none

/-! ### Signatures -/
abbrev CSh.den : CSh → Type
  | .int _ => Int | .bool => Bool | .str => ByteArray | .row _ k => List k.den | .own _ k => List k.den | .fn _ => Unit | .arg _ => Unit
def CSh.put : (s : CSh) → s.den → AV
  | .int k, n => .int k n | .bool, b => .bool b | .str, s => .str s | .row e k, xs => .row e k xs | .own e k, xs => .own e k xs | .fn f, _ => .fn f | .arg n, _ => .ref n
def CSh.get : (s : CSh) → AV → Option s.den
  | .int k, .int k' n => cn (decide (k' = k)) (some n) none
  | .bool, .bool b => some b
  | .str, .str s => some s
  | .row e k, .row e' k' xs => cn (Nat.beq e' e) (match kindEq k' k with | some ⟨h⟩ => some (castK h xs) | none => none) none
  | .own e k, .own e' k' xs => cn (Nat.beq e' e) (match kindEq k' k with | some ⟨h⟩ => some (castK h xs) | none => none) none
  | .fn f, .fn g => cn (Nat.beq g f) (some ()) none
  | .arg f, .ref g => cn (Nat.beq g f) (some ()) none
  | _, _ => none
abbrev CsDen : List CSh → Type
  | [] => Unit | [c] => c.den | c :: l => c.den × CsDen l
def putCs : (l : List CSh) → CsDen l → List AV
  | [], _ => [] | [c], x => [c.put x] | c :: d :: l, x => c.put x.1 :: putCs (d :: l) x.2
def getCs : (l : List CSh) → List AV → Option (CsDen l)
  | [], [] => some ()
  | [c], [v] => c.get v
  | c :: d :: l, v :: vs => match c.get v, getCs (d :: l) vs with | some x, some y => some (x, y) | _, _ => none
  | _, _ => none
abbrev Sh.den : Sh → Type
  | .one c => c.den | .agg l => CsDen l
def Sh.put : (s : Sh) → s.den → AV
  | .one c, x => c.put x | .agg l, x => .agg (putCs l x)
def Sh.get : (s : Sh) → AV → Option s.den
  | .one c, v => c.get v
  | .agg l, .agg vs => getCs l vs
  | .agg _, _ => none
abbrev ShsDen : List Sh → Type
  | [] => Unit | [c] => c.den | c :: l => c.den × ShsDen l
def putSs : (l : List Sh) → ShsDen l → List AV
  | [], _ => [] | [c], x => [c.put x] | c :: d :: l, x => c.put x.1 :: putSs (d :: l) x.2
def getSs : (l : List Sh) → List AV → Option (ShsDen l)
  | [], [] => some ()
  | [c], [v] => c.get v
  | c :: d :: l, v :: vs => match c.get v, getSs (d :: l) vs with | some x, some y => some (x, y) | _, _ => none
  | _, _ => none
/-- What stayed: a row, or a box of cells. -/
inductive OSh where
  | rows (e : Nat) (k : Kind) | box (t : Nat) (l : List CSh)
abbrev OSh.den : OSh → Type
  | .rows _ k => List k.den | .box _ l => CsDen l
def OSh.put : (s : OSh) → s.den → Root
  | .rows e k, xs => .rows e k xs | .box t l, x => .box t (putCs l x)
def OSh.get : (s : OSh) → Root → Option s.den
  | .rows e k, .rows e' k' xs => cn (Nat.beq e' e) (match kindEq k' k with | some ⟨h⟩ => some (castK h xs) | none => none) none
  | .box t l, .box t' vs => cn (Nat.beq t' t) (getCs l vs) none
  | _, _ => none
abbrev OsDen : List OSh → Type
  | [] => Unit | [c] => c.den | c :: l => c.den × OsDen l
def putOs : (l : List OSh) → OsDen l → List Root
  | [], _ => [] | [c], x => [c.put x] | c :: d :: l, x => c.put x.1 :: putOs (d :: l) x.2
def getOs : (l : List OSh) → List Root → Option (OsDen l)
  | [], [] => some ()
  | [c], [v] => c.get v
  | c :: d :: l, v :: vs => match c.get v, getOs (d :: l) vs with | some x, some y => some (x, y) | _, _ => none
  | _, _ => none
/-- Results, and what stayed. -/
abbrev DDen (rs : List Sh) : List OSh → Type
  | [] => ShsDen rs | o :: os => ShsDen rs × OsDen (o :: os)
def retD (rs : List Sh) : (os : List OSh) → DDen rs os → List AV
  | [], x => putSs rs x | _ :: _, x => putSs rs x.1
def outD (rs : List Sh) : (os : List OSh) → DDen rs os → List Root
  | [], _ => [] | o :: os, x => putOs (o :: os) x.2
def exD (rs : List Sh) : (os : List OSh) → List AV → List Root → Option (DDen rs os)
  | [], vs, [] => getSs rs vs
  | [], _, _ :: _ => none
  | o :: os, vs, hs => match getSs rs vs, getOs (o :: os) hs with | some x, some y => some (x, y) | _, _ => none
structure Sig where
  f : Nat
  grp : List Grp
  md : List Mode
  as : List Sh
  rs : List Sh
  os : List OSh
  lv : List (Nat × List (Nat × Bool))
noncomputable def Sig.run (s : Sig) (P : Program) (C : List (Nat × Ctr)) (k : Nat) (x : ShsDen s.as) : Option (DDen s.rs s.os) := runX P C k s.lv s.f s.grp s.md s.rs (exD s.rs s.os) (putSs s.as x)
def Sig.ctr (s : Sig) (F : ShsDen s.as → Option (DDen s.rs s.os)) : Ctr := ⟨DDen s.rs s.os, s.grp, s.md, fun ts => (getSs s.as ts).bind F, retD s.rs s.os, outD s.rs s.os, none⟩
def Sig.ctrN (s : Sig) (p : ShsDen s.as → DDen s.rs s.os → Prop) : Ctr := ⟨DDen s.rs s.os, s.grp, s.md, fun _ => none, retD s.rs s.os, outD s.rs s.os, some fun ts => match getSs s.as ts with | some x => some (p x) | none => none⟩
/-- The head of the loop in block 'id', as a function of its own. -/
noncomputable def Sig.head (s : Sig) (P : Program) (C : List (Nat × Ctr)) (k np id : Nat) (ns : List Nat) (m : Nat) (env : List (Nat × AV)) (heap : List Root) : Option (DDen s.rs s.os) :=
  match P.funcs[s.f]? with
  | some fn => match fn.body with
    | some c => match headX ⟨P, C, k, np, s.lv⟩ id c ns (outX P fn np s.md s.rs (exD s.rs s.os)) with
      | some h => h m ⟨env, heap, fn.ntmps, np⟩
      | none => none
    | none => none
  | none => none
def Sig.good (s : Sig) (P : Program) : Bool :=
  match P.funcs[s.f]? with
  | some fn => fn.body.isSome && !decide (fn.name = "runtime.NumGoroutine")
  | none => false

end Go.Proofs.YtlkbmcmglkdciaaE
