/- The functions that the statement reaches, as the executor tells them; their contracts. No condition. -/
import Derived.Test.YtcddcnnbhbffmaaE36
import Derived.Test.YtcddcnnbhbffmaaProg
import Derived.Test.YtcddcnnbhbffmaaSFg
namespace Go.Proofs.Ytcddcnnbhbffmaa
open Go Go.Proofs.YtcddcnnbhbffmaaE
set_option linter.unusedVariables false
set_option maxRecDepth 100000
abbrev w_szStringS.s : Sig := ⟨18, [], [.val, .val], [.one (.row 9 .str), .one (.int .i64)], [.one (.int .i64)], [], [(0, [(0,false),(1,false),(5,false)])]⟩
noncomputable def w_szStringS.C (k : Nat) : List (Nat × Ctr) := []
noncomputable def w_szStringS.f (k : Nat) (a : List ByteArray) (left : Int) : Option Int := opq (w_szStringS.s.run Try.prog (w_szStringS.C k) k (a, left))
theorem w_szStringS.ok (k : Nat) : CtrOk Try.prog 18 (w_szStringS.s.ctr (fun x => w_szStringS.f k x.1 x.2)) := sig_ok w_szStringS.s .nil (by kernel_rfl) fun _ => opq_eq _
noncomputable def w_szStringS.l0 (k : Nat) (m : Nat) (a0 : List ByteArray) (left1 : Int) (i5 : Int) : Option Int := w_szStringS.s.head Try.prog (w_szStringS.C k) k 1 0 [] m [(0, AV.row 9 Kind.str a0), (1, AV.int IntKind.i64 left1), (5, AV.int IntKind.i64 i5)] [Root.dead]
theorem w_szStringS.l0_z (k : Nat) (a0 : List ByteArray) (left1 : Int) (i5 : Int) : w_szStringS.l0 k 0 a0 left1 i5 = none := by kernel_rfl
theorem w_szStringS.l0_s (k : Nat) (m : Nat) (a0 : List ByteArray) (left1 : Int) (i5 : Int) : w_szStringS.l0 k (m + 1) a0 left1 i5 =
 cn (decide (i5 < (↑a0.length : Int)))
 (gd (inb i5 a0.length)
  (cn (decide (IntKind.i64.wrap (left1 - (↑(getAt ByteArray.empty a0 i5.toNat).size : Int)) < (0 : Int)))
   (some ((-1 : Int)))
   (w_szStringS.l0 k m a0 (IntKind.i64.wrap (left1 - (↑(getAt ByteArray.empty a0 i5.toNat).size : Int))) (IntKind.i64.wrap (i5 + (1 : Int))))))
 (some left1) := by kernel_rfl
theorem w_szStringS.f_eq (k : Nat) (a : List ByteArray) (left : Int) : w_szStringS.f k a left =
 cn (decide (IntKind.i64.wrap (left - (↑a.length : Int)) < (0 : Int)))
 (some ((-1 : Int)))
 (w_szStringS.l0 k k a (IntKind.i64.wrap (left - (↑a.length : Int))) ((0 : Int))) := (opq_eq _).trans (by kernel_rfl)
abbrev w_szBoolS.s : Sig := ⟨70, [], [.val, .val], [.one (.row 4 .bool), .one (.int .i64)], [.one (.int .i64)], [], []⟩
noncomputable def w_szBoolS.C (k : Nat) : List (Nat × Ctr) := []
noncomputable def w_szBoolS.f (k : Nat) (a : List Bool) (left : Int) : Option Int := opq (w_szBoolS.s.run Try.prog (w_szBoolS.C k) k (a, left))
theorem w_szBoolS.ok (k : Nat) : CtrOk Try.prog 70 (w_szBoolS.s.ctr (fun x => w_szBoolS.f k x.1 x.2)) := sig_ok w_szBoolS.s .nil (by kernel_rfl) fun _ => opq_eq _
theorem w_szBoolS.f_eq (k : Nat) (a : List Bool) (left : Int) : w_szBoolS.f k a left =
 cn (decide (IntKind.i64.wrap (left - (↑a.length : Int)) < (0 : Int)))
 (some ((-1 : Int)))
 (some (IntKind.i64.wrap (left - (↑a.length : Int)))) := (opq_eq _).trans (by kernel_rfl)
abbrev w_szDisk.s : Sig := ⟨28, [], [.val, .val], [.agg [.row 9 .str, .row 9 .str, .row 4 .bool], .one (.int .i64)], [.one (.int .i64)], [], []⟩
noncomputable def w_szDisk.C (k : Nat) : List (Nat × Ctr) := [(18, w_szStringS.s.ctr (fun x => w_szStringS.f k x.1 x.2)), (70, w_szBoolS.s.ctr (fun x => w_szBoolS.f k x.1 x.2))]
noncomputable def w_szDisk.f (k : Nat) (a_Plate : List ByteArray) (a_Held : List ByteArray) (a_Bad : List Bool) (left : Int) : Option Int := opq (w_szDisk.s.run Try.prog (w_szDisk.C k) k ((a_Plate, a_Held, a_Bad), left))
theorem w_szDisk.ok (k : Nat) : CtrOk Try.prog 28 (w_szDisk.s.ctr (fun x => w_szDisk.f k x.1.1 x.1.2.1 x.1.2.2 x.2)) := sig_ok w_szDisk.s (.cons (w_szStringS.ok k) (.cons (w_szBoolS.ok k) .nil)) (by kernel_rfl) fun _ => opq_eq _
theorem w_szDisk.f_eq (k : Nat) (a_Plate : List ByteArray) (a_Held : List ByteArray) (a_Bad : List Bool) (left : Int) : w_szDisk.f k a_Plate a_Held a_Bad left =
 (w_szStringS.f k a_Plate left).bind fun d0 =>
 cn (decide (d0 < (0 : Int)))
 (some ((-1 : Int)))
 ((w_szStringS.f k a_Held d0).bind fun d1 =>
  cn (decide (d1 < (0 : Int)))
  (some ((-1 : Int)))
  ((w_szBoolS.f k a_Bad d1).bind fun d2 =>
   cn (decide (d2 < (0 : Int)))
   (some ((-1 : Int)))
   (some d2))) := (opq_eq _).trans (by kernel_rfl)
abbrev w_toStringS.s : Sig := ⟨20, [], [.val], [.one (.row 9 .str)], [.one (.own 9 .str)], [], [(0, [(0,false),(3,true),(4,false)])]⟩
noncomputable def w_toStringS.C (k : Nat) : List (Nat × Ctr) := []
noncomputable def w_toStringS.f (k : Nat) (a : List ByteArray) : Option (List ByteArray) := opq (w_toStringS.s.run Try.prog (w_toStringS.C k) k a)
theorem w_toStringS.ok (k : Nat) : CtrOk Try.prog 20 (w_toStringS.s.ctr (fun x => w_toStringS.f k x)) := sig_ok w_toStringS.s .nil (by kernel_rfl) fun _ => opq_eq _
noncomputable def w_toStringS.l0 (k : Nat) (m : Nat) (a0 : List ByteArray) (i4 : Int) (h1 : List ByteArray) : Option (List ByteArray) := w_toStringS.s.head Try.prog (w_toStringS.C k) k 1 0 [] m [(0, AV.row 9 Kind.str a0), (3, AV.ref 1), (4, AV.int IntKind.i64 i4)] [Root.dead, Root.rows 9 Kind.str h1]
theorem w_toStringS.l0_z (k : Nat) (a0 : List ByteArray) (i4 : Int) (h1 : List ByteArray) : w_toStringS.l0 k 0 a0 i4 h1 = none := by kernel_rfl
theorem w_toStringS.l0_s (k : Nat) (m : Nat) (a0 : List ByteArray) (i4 : Int) (h1 : List ByteArray) : w_toStringS.l0 k (m + 1) a0 i4 h1 =
 cn (decide (i4 < (↑a0.length : Int)))
 (gd (inb i4 a0.length)
  (gd (inb i4 h1.length)
   (w_toStringS.l0 k m a0 (IntKind.i64.wrap (i4 + (1 : Int))) (h1.set i4.toNat (getAt ByteArray.empty a0 i4.toNat)))))
 (some h1) := by kernel_rfl
theorem w_toStringS.f_eq (k : Nat) (a : List ByteArray) : w_toStringS.f k a =
 gd (mkOk (↑a.length : Int) (↑a.length : Int) (Try.prog.bytesOf (9 : Nat)))
 (w_toStringS.l0 k k a ((0 : Int)) (List.replicate (↑a.length : Int).toNat ByteArray.empty)) := (opq_eq _).trans (by kernel_rfl)
abbrev w_toBoolS.s : Sig := ⟨73, [], [.val], [.one (.row 4 .bool)], [.one (.own 4 .bool)], [], [(0, [(0,false),(3,true),(4,false)])]⟩
noncomputable def w_toBoolS.C (k : Nat) : List (Nat × Ctr) := []
noncomputable def w_toBoolS.f (k : Nat) (a : List Bool) : Option (List Bool) := opq (w_toBoolS.s.run Try.prog (w_toBoolS.C k) k a)
theorem w_toBoolS.ok (k : Nat) : CtrOk Try.prog 73 (w_toBoolS.s.ctr (fun x => w_toBoolS.f k x)) := sig_ok w_toBoolS.s .nil (by kernel_rfl) fun _ => opq_eq _
noncomputable def w_toBoolS.l0 (k : Nat) (m : Nat) (a0 : List Bool) (i4 : Int) (h1 : List Bool) : Option (List Bool) := w_toBoolS.s.head Try.prog (w_toBoolS.C k) k 1 0 [] m [(0, AV.row 4 Kind.bool a0), (3, AV.ref 1), (4, AV.int IntKind.i64 i4)] [Root.dead, Root.rows 4 Kind.bool h1]
theorem w_toBoolS.l0_z (k : Nat) (a0 : List Bool) (i4 : Int) (h1 : List Bool) : w_toBoolS.l0 k 0 a0 i4 h1 = none := by kernel_rfl
theorem w_toBoolS.l0_s (k : Nat) (m : Nat) (a0 : List Bool) (i4 : Int) (h1 : List Bool) : w_toBoolS.l0 k (m + 1) a0 i4 h1 =
 cn (decide (i4 < (↑a0.length : Int)))
 (gd (inb i4 a0.length)
  (gd (inb i4 h1.length)
   (w_toBoolS.l0 k m a0 (IntKind.i64.wrap (i4 + (1 : Int))) (h1.set i4.toNat (getAt false a0 i4.toNat)))))
 (some h1) := by kernel_rfl
theorem w_toBoolS.f_eq (k : Nat) (a : List Bool) : w_toBoolS.f k a =
 gd (mkOk (↑a.length : Int) (↑a.length : Int) (Try.prog.bytesOf (4 : Nat)))
 (w_toBoolS.l0 k k a ((0 : Int)) (List.replicate (↑a.length : Int).toNat false)) := (opq_eq _).trans (by kernel_rfl)
abbrev w_toDisk.s : Sig := ⟨30, [], [.val], [.agg [.row 9 .str, .row 9 .str, .row 4 .bool]], [.agg [.own 9 .str, .own 9 .str, .own 4 .bool]], [], []⟩
noncomputable def w_toDisk.C (k : Nat) : List (Nat × Ctr) := [(20, w_toStringS.s.ctr (fun x => w_toStringS.f k x)), (73, w_toBoolS.s.ctr (fun x => w_toBoolS.f k x))]
noncomputable def w_toDisk.f (k : Nat) (a_Plate : List ByteArray) (a_Held : List ByteArray) (a_Bad : List Bool) : Option (List ByteArray × List ByteArray × List Bool) := opq (w_toDisk.s.run Try.prog (w_toDisk.C k) k (a_Plate, a_Held, a_Bad))
theorem w_toDisk.ok (k : Nat) : CtrOk Try.prog 30 (w_toDisk.s.ctr (fun x => w_toDisk.f k x.1 x.2.1 x.2.2)) := sig_ok w_toDisk.s (.cons (w_toStringS.ok k) (.cons (w_toBoolS.ok k) .nil)) (by kernel_rfl) fun _ => opq_eq _
theorem w_toDisk.f_eq (k : Nat) (a_Plate : List ByteArray) (a_Held : List ByteArray) (a_Bad : List Bool) : w_toDisk.f k a_Plate a_Held a_Bad =
 (w_toStringS.f k a_Plate).bind fun d0 =>
 (w_toStringS.f k a_Held).bind fun d1 =>
 (w_toBoolS.f k a_Bad).bind fun d2 =>
 some ((d0, d1, d2)) := (opq_eq _).trans (by kernel_rfl)
abbrev s_l1In.s : Sig := ⟨79, [], [.val, .val, .val], [.one (.int .i64), .one (.int .i64), .one (.int .i64)], [.one .bool], [], []⟩
noncomputable def s_l1In.C (k : Nat) : List (Nat × Ctr) := []
noncomputable def s_l1In.f (k : Nat) (n : Int) (lo : Int) (hi : Int) : Option Bool := opq (s_l1In.s.run Try.prog (s_l1In.C k) k (n, lo, hi))
theorem s_l1In.ok (k : Nat) : CtrOk Try.prog 79 (s_l1In.s.ctr (fun x => s_l1In.f k x.1 x.2.1 x.2.2)) := sig_ok s_l1In.s .nil (by kernel_rfl) fun _ => opq_eq _
theorem s_l1In.f_eq (k : Nat) (n : Int) (lo : Int) (hi : Int) : s_l1In.f k n lo hi =
 cn (decide (lo ≤ n))
 (some (decide (n ≤ hi)))
 (some false) := (opq_eq _).trans (by kernel_rfl)
abbrev s_GoodDisk.s : Sig := ⟨71, [], [.val], [.agg [.row 9 .str, .row 9 .str, .row 4 .bool]], [.one .bool], [], [(0, [(1,false),(27,false),(28,false)])]⟩
noncomputable def s_GoodDisk.C (k : Nat) : List (Nat × Ctr) := [(79, s_l1In.s.ctr (fun x => s_l1In.f k x.1 x.2.1 x.2.2))]
noncomputable def s_GoodDisk.f (k : Nat) (d_Plate : List ByteArray) (d_Held : List ByteArray) (d_Bad : List Bool) : Option Bool := opq (s_GoodDisk.s.run Try.prog (s_GoodDisk.C k) k (d_Plate, d_Held, d_Bad))
theorem s_GoodDisk.ok (k : Nat) : CtrOk Try.prog 71 (s_GoodDisk.s.ctr (fun x => s_GoodDisk.f k x.1 x.2.1 x.2.2)) := sig_ok s_GoodDisk.s (.cons (s_l1In.ok k) .nil) (by kernel_rfl) fun _ => opq_eq _
noncomputable def s_GoodDisk.l0 (k : Nat) (m : Nat) (t27 : Int) (t28 : Int) (h1 : List ByteArray) (h1_ : List ByteArray) (h1__ : List Bool) : Option Bool := s_GoodDisk.s.head Try.prog (s_GoodDisk.C k) k 1 0 [] m [(1, AV.ptr 1 0 0), (27, AV.int IntKind.i64 t27), (28, AV.int IntKind.i64 t28)] [Root.dead, Root.box 38 [AV.row 9 Kind.str h1, AV.row 9 Kind.str h1_, AV.row 4 Kind.bool h1__]]
theorem s_GoodDisk.l0_z (k : Nat) (t27 : Int) (t28 : Int) (h1 : List ByteArray) (h1_ : List ByteArray) (h1__ : List Bool) : s_GoodDisk.l0 k 0 t27 t28 h1 h1_ h1__ = none := by kernel_rfl
theorem s_GoodDisk.l0_s (k : Nat) (m : Nat) (t27 : Int) (t28 : Int) (h1 : List ByteArray) (h1_ : List ByteArray) (h1__ : List Bool) : s_GoodDisk.l0 k (m + 1) t27 t28 h1 h1_ h1__ =
 cn (decide (t28 < t27))
 (gd (inb t28 h1.length)
  (cn (decide ((28 : Int) < (↑(getAt ByteArray.empty h1 t28.toNat).size : Int)))
   (some false)
   (gd (inb t28 h1_.length)
    (cn (decide ((28 : Int) < (↑(getAt ByteArray.empty h1_ t28.toNat).size : Int)))
     (some false)
     (gd (inb t28 h1__.length)
      (cn (getAt false h1__ t28.toNat)
       (gd (inb t28 h1_.length)
        (cn (!decide ((getAt ByteArray.empty h1_ t28.toNat).toList = ByteArray.empty.toList))
         (some false)
         (s_GoodDisk.l0 k m t27 (IntKind.i64.wrap (t28 + (1 : Int))) h1 h1_ h1__)))
       (s_GoodDisk.l0 k m t27 (IntKind.i64.wrap (t28 + (1 : Int))) h1 h1_ h1__)))))))
 (some true) := by kernel_rfl
theorem s_GoodDisk.f_eq (k : Nat) (d_Plate : List ByteArray) (d_Held : List ByteArray) (d_Bad : List Bool) : s_GoodDisk.f k d_Plate d_Held d_Bad =
 (s_l1In.f k (↑d_Plate.length : Int) (1 : Int) (24 : Int)).bind fun d0 =>
 cn (!d0)
 (some false)
 (cn (!decide ((↑d_Held.length : Int) = (↑d_Plate.length : Int)))
  (some false)
  (cn (!decide ((↑d_Bad.length : Int) = (↑d_Plate.length : Int)))
   (some false)
   (s_GoodDisk.l0 k k ((↑d_Plate.length : Int)) ((0 : Int)) d_Plate d_Held d_Bad))) := (opq_eq _).trans (by kernel_rfl)
abbrev s_l7Read.s : Sig := ⟨105, [], [.val, .val], [.agg [.row 9 .str, .row 9 .str, .row 4 .bool], .one (.int .i64)], [.one .str, .one .bool], [], []⟩
noncomputable def s_l7Read.C (k : Nat) : List (Nat × Ctr) := []
noncomputable def s_l7Read.f (k : Nat) (d_Plate : List ByteArray) (d_Held : List ByteArray) (d_Bad : List Bool) (at_ : Int) : Option (ByteArray × Bool) := opq (s_l7Read.s.run Try.prog (s_l7Read.C k) k ((d_Plate, d_Held, d_Bad), at_))
theorem s_l7Read.ok (k : Nat) : CtrOk Try.prog 105 (s_l7Read.s.ctr (fun x => s_l7Read.f k x.1.1 x.1.2.1 x.1.2.2 x.2)) := sig_ok s_l7Read.s .nil (by kernel_rfl) fun _ => opq_eq _
theorem s_l7Read.f_eq (k : Nat) (d_Plate : List ByteArray) (d_Held : List ByteArray) (d_Bad : List Bool) (at_ : Int) : s_l7Read.f k d_Plate d_Held d_Bad at_ =
 gd (inb at_ d_Bad.length)
 (cn (getAt false d_Bad at_.toNat)
  (some ((ByteArray.empty, false)))
  (gd (inb at_ d_Held.length)
   (cn (!decide ((getAt ByteArray.empty d_Held at_.toNat).toList = ByteArray.empty.toList))
    (gd (inb at_ d_Held.length)
     (some ((getAt ByteArray.empty d_Held at_.toNat, true))))
    (gd (inb at_ d_Plate.length)
     (some ((getAt ByteArray.empty d_Plate at_.toNat, true))))))) := (opq_eq _).trans (by kernel_rfl)
abbrev s_l5Byte.s : Sig := ⟨135, [], [.val], [.one (.int .i64)], [.one (.int .i64)], [], [(0, [(0,false),(3,false)])]⟩
noncomputable def s_l5Byte.C (k : Nat) : List (Nat × Ctr) := []
noncomputable def s_l5Byte.f (k : Nat) (sum : Int) : Option Int := opq (s_l5Byte.s.run Try.prog (s_l5Byte.C k) k sum)
theorem s_l5Byte.ok (k : Nat) : CtrOk Try.prog 135 (s_l5Byte.s.ctr (fun x => s_l5Byte.f k x)) := sig_ok s_l5Byte.s .nil (by kernel_rfl) fun _ => opq_eq _
noncomputable def s_l5Byte.l0 (k : Nat) (m : Nat) (sum0 : Int) (k3 : Int) : Option Int := s_l5Byte.s.head Try.prog (s_l5Byte.C k) k 1 0 [] m [(0, AV.int IntKind.i64 sum0), (3, AV.int IntKind.i64 k3)] [Root.dead]
theorem s_l5Byte.l0_z (k : Nat) (sum0 : Int) (k3 : Int) : s_l5Byte.l0 k 0 sum0 k3 = none := by kernel_rfl
theorem s_l5Byte.l0_s (k : Nat) (m : Nat) (sum0 : Int) (k3 : Int) : s_l5Byte.l0 k (m + 1) sum0 k3 =
 cn (decide (k3 < (8 : Int)))
 (cn (decide (IntKind.i64.wrap (↑(BitVec.ofInt (64 : Nat) sum0 &&& BitVec.ofInt (64 : Nat) (1 : Int)).toNat : Int) = (1 : Int)))
  (s_l5Byte.l0 k m (IntKind.i64.wrap (↑(BitVec.ofInt (64 : Nat) (sum0.fdiv ((2 : Int) ^ (1 : Nat))) ^^^ BitVec.ofInt (64 : Nat) (2197175160 : Int)).toNat : Int)) (IntKind.i64.wrap (k3 + (1 : Int))))
  (s_l5Byte.l0 k m (sum0.fdiv ((2 : Int) ^ (1 : Nat))) (IntKind.i64.wrap (k3 + (1 : Int)))))
 (some sum0) := by kernel_rfl
theorem s_l5Byte.f_eq (k : Nat) (sum : Int) : s_l5Byte.f k sum =
 s_l5Byte.l0 k k sum ((0 : Int)) := (opq_eq _).trans (by kernel_rfl)
abbrev s_l5On.s : Sig := ⟨127, [], [.val, .val], [.one (.int .i64), .one .str], [.one (.int .i64)], [], [(0, [(0,false),(1,false),(5,false)])]⟩
noncomputable def s_l5On.C (k : Nat) : List (Nat × Ctr) := [(135, s_l5Byte.s.ctr (fun x => s_l5Byte.f k x))]
noncomputable def s_l5On.f (k : Nat) (sum : Int) (s : ByteArray) : Option Int := opq (s_l5On.s.run Try.prog (s_l5On.C k) k (sum, s))
theorem s_l5On.ok (k : Nat) : CtrOk Try.prog 127 (s_l5On.s.ctr (fun x => s_l5On.f k x.1 x.2)) := sig_ok s_l5On.s (.cons (s_l5Byte.ok k) .nil) (by kernel_rfl) fun _ => opq_eq _
noncomputable def s_l5On.l0 (k : Nat) (m : Nat) (sum0 : Int) (s1 : ByteArray) (i5 : Int) : Option Int := s_l5On.s.head Try.prog (s_l5On.C k) k 1 0 [] m [(0, AV.int IntKind.i64 sum0), (1, AV.str s1), (5, AV.int IntKind.i64 i5)] [Root.dead]
theorem s_l5On.l0_z (k : Nat) (sum0 : Int) (s1 : ByteArray) (i5 : Int) : s_l5On.l0 k 0 sum0 s1 i5 = none := by kernel_rfl
theorem s_l5On.l0_s (k : Nat) (m : Nat) (sum0 : Int) (s1 : ByteArray) (i5 : Int) : s_l5On.l0 k (m + 1) sum0 s1 i5 =
 cn (decide (i5 < (↑s1.size : Int)))
 (gd (inb i5 s1.size)
  ((s_l5Byte.f k (IntKind.i64.wrap (↑(BitVec.ofInt (64 : Nat) sum0 ^^^ BitVec.ofInt (64 : Nat) (IntKind.i64.wrap (↑(s1.data.getD i5.toNat (0 : UInt8)).toNat : Int))).toNat : Int))).bind fun d0 =>
   s_l5On.l0 k m d0 s1 (IntKind.i64.wrap (i5 + (1 : Int)))))
 (some (IntKind.i64.wrap (↑(BitVec.ofInt (64 : Nat) sum0 ^^^ BitVec.ofInt (64 : Nat) (4294967295 : Int)).toNat : Int))) := by kernel_rfl
theorem s_l5On.f_eq (k : Nat) (sum : Int) (s : ByteArray) : s_l5On.f k sum s =
 s_l5On.l0 k k (IntKind.i64.wrap (↑(BitVec.ofInt (64 : Nat) sum ^^^ BitVec.ofInt (64 : Nat) (4294967295 : Int)).toNat : Int)) s ((0 : Int)) := (opq_eq _).trans (by kernel_rfl)
abbrev s_l6Bytes.s : Sig := ⟨96, [], [.val, .val], [.one (.int .i64), .one (.int .i64)], [.one .str], [], [(0, [(0,false),(5,true),(6,false)])]⟩
noncomputable def s_l6Bytes.C (k : Nat) : List (Nat × Ctr) := []
noncomputable def s_l6Bytes.f (k : Nat) (n : Int) (many : Int) : Option ByteArray := opq (s_l6Bytes.s.run Try.prog (s_l6Bytes.C k) k (n, many))
theorem s_l6Bytes.ok (k : Nat) : CtrOk Try.prog 96 (s_l6Bytes.s.ctr (fun x => s_l6Bytes.f k x.1 x.2)) := sig_ok s_l6Bytes.s .nil (by kernel_rfl) fun _ => opq_eq _
noncomputable def s_l6Bytes.l0 (k : Nat) (m : Nat) (n0 : Int) (i6 : Int) (h1 : List Int) : Option ByteArray := s_l6Bytes.s.head Try.prog (s_l6Bytes.C k) k 1 0 [] m [(0, AV.int IntKind.i64 n0), (5, AV.ref 1), (6, AV.int IntKind.i64 i6)] [Root.dead, Root.rows 5 (Kind.int IntKind.u8) h1]
theorem s_l6Bytes.l0_z (k : Nat) (n0 : Int) (i6 : Int) (h1 : List Int) : s_l6Bytes.l0 k 0 n0 i6 h1 = none := by kernel_rfl
theorem s_l6Bytes.l0_s (k : Nat) (m : Nat) (n0 : Int) (i6 : Int) (h1 : List Int) : s_l6Bytes.l0 k (m + 1) n0 i6 h1 =
 cn (decide ((0 : Int) ≤ i6))
 (gd (inb i6 h1.length)
  (s_l6Bytes.l0 k m (n0.fdiv ((2 : Int) ^ (8 : Nat))) (IntKind.i64.wrap (i6 - (1 : Int))) (h1.set i6.toNat (IntKind.u8.wrap n0))))
 (some (strOfNums h1)) := by kernel_rfl
theorem s_l6Bytes.f_eq (k : Nat) (n : Int) (many : Int) : s_l6Bytes.f k n many =
 gd (mkOk many many (Try.prog.bytesOf (5 : Nat)))
 (s_l6Bytes.l0 k k n (IntKind.i64.wrap (many - (1 : Int))) (List.replicate many.toNat (0 : Int))) := (opq_eq _).trans (by kernel_rfl)
abbrev s_l6Low.s : Sig := ⟨126, [], [.val], [.one (.int .i64)], [.one .str], [], [(0, [(0,false),(3,false),(4,false)])]⟩
noncomputable def s_l6Low.C (k : Nat) : List (Nat × Ctr) := [(96, s_l6Bytes.s.ctr (fun x => s_l6Bytes.f k x.1 x.2))]
noncomputable def s_l6Low.f (k : Nat) (n : Int) : Option ByteArray := opq (s_l6Low.s.run Try.prog (s_l6Low.C k) k n)
theorem s_l6Low.ok (k : Nat) : CtrOk Try.prog 126 (s_l6Low.s.ctr (fun x => s_l6Low.f k x)) := sig_ok s_l6Low.s (.cons (s_l6Bytes.ok k) .nil) (by kernel_rfl) fun _ => opq_eq _
noncomputable def s_l6Low.l0 (k : Nat) (m : Nat) (n0 : Int) (s3 : ByteArray) (k4 : Int) : Option ByteArray := s_l6Low.s.head Try.prog (s_l6Low.C k) k 1 0 [] m [(0, AV.int IntKind.i64 n0), (3, AV.str s3), (4, AV.int IntKind.i64 k4)] [Root.dead]
theorem s_l6Low.l0_z (k : Nat) (n0 : Int) (s3 : ByteArray) (k4 : Int) : s_l6Low.l0 k 0 n0 s3 k4 = none := by kernel_rfl
theorem s_l6Low.l0_s (k : Nat) (m : Nat) (n0 : Int) (s3 : ByteArray) (k4 : Int) : s_l6Low.l0 k (m + 1) n0 s3 k4 =
 cn (decide (k4 < (4 : Int)))
 (gd (decide ((0 : Int) ≤ IntKind.u64.wrap (IntKind.i64.wrap ((8 : Int) * k4))))
  ((s_l6Bytes.f k (n0.fdiv ((2 : Int) ^ min (IntKind.u64.wrap (IntKind.i64.wrap ((8 : Int) * k4))).toNat (64 : Nat))) (1 : Int)).bind fun d0 =>
   gd (decide (s3.size + ByteArray.size d0 ≤ (140737488355328 : Nat)))
   (s_l6Low.l0 k m n0 (s3 ++ d0) (IntKind.i64.wrap (k4 + (1 : Int))))))
 (some s3) := by kernel_rfl
theorem s_l6Low.f_eq (k : Nat) (n : Int) : s_l6Low.f k n =
 s_l6Low.l0 k k n ByteArray.empty ((0 : Int)) := (opq_eq _).trans (by kernel_rfl)
abbrev s_l6Value.s : Sig := ⟨59, [], [.val], [.one .str], [.one (.int .i64)], [], [(0, [(0,false),(3,false),(4,false)])]⟩
noncomputable def s_l6Value.C (k : Nat) : List (Nat × Ctr) := []
noncomputable def s_l6Value.f (k : Nat) (s : ByteArray) : Option Int := opq (s_l6Value.s.run Try.prog (s_l6Value.C k) k s)
theorem s_l6Value.ok (k : Nat) : CtrOk Try.prog 59 (s_l6Value.s.ctr (fun x => s_l6Value.f k x)) := sig_ok s_l6Value.s .nil (by kernel_rfl) fun _ => opq_eq _
noncomputable def s_l6Value.l0 (k : Nat) (m : Nat) (s0 : ByteArray) (n3 : Int) (i4 : Int) : Option Int := s_l6Value.s.head Try.prog (s_l6Value.C k) k 1 0 [] m [(0, AV.str s0), (3, AV.int IntKind.i64 n3), (4, AV.int IntKind.i64 i4)] [Root.dead]
theorem s_l6Value.l0_z (k : Nat) (s0 : ByteArray) (n3 : Int) (i4 : Int) : s_l6Value.l0 k 0 s0 n3 i4 = none := by kernel_rfl
theorem s_l6Value.l0_s (k : Nat) (m : Nat) (s0 : ByteArray) (n3 : Int) (i4 : Int) : s_l6Value.l0 k (m + 1) s0 n3 i4 =
 cn (decide (i4 < (↑s0.size : Int)))
 (gd (inb i4 s0.size)
  (s_l6Value.l0 k m s0 (IntKind.i64.wrap (↑(BitVec.ofInt (64 : Nat) (IntKind.i64.wrap (n3 * (2 : Int) ^ (8 : Nat))) ||| BitVec.ofInt (64 : Nat) (IntKind.i64.wrap (↑(s0.data.getD i4.toNat (0 : UInt8)).toNat : Int))).toNat : Int)) (IntKind.i64.wrap (i4 + (1 : Int)))))
 (some n3) := by kernel_rfl
theorem s_l6Value.f_eq (k : Nat) (s : ByteArray) : s_l6Value.f k s =
 s_l6Value.l0 k k s ((0 : Int)) ((0 : Int)) := (opq_eq _).trans (by kernel_rfl)
abbrev s_GoodFrame.s : Sig := ⟨138, [], [.val], [.agg [.int .i64, .int .i64, .int .i64, .str]], [.one .bool], [], []⟩
noncomputable def s_GoodFrame.C (k : Nat) : List (Nat × Ctr) := [(79, s_l1In.s.ctr (fun x => s_l1In.f k x.1 x.2.1 x.2.2))]
noncomputable def s_GoodFrame.f (k : Nat) (f_Kind : Int) (f_At : Int) (f_Epoch : Int) (f_Body : ByteArray) : Option Bool := opq (s_GoodFrame.s.run Try.prog (s_GoodFrame.C k) k (f_Kind, f_At, f_Epoch, f_Body))
theorem s_GoodFrame.ok (k : Nat) : CtrOk Try.prog 138 (s_GoodFrame.s.ctr (fun x => s_GoodFrame.f k x.1 x.2.1 x.2.2.1 x.2.2.2)) := sig_ok s_GoodFrame.s (.cons (s_l1In.ok k) .nil) (by kernel_rfl) fun _ => opq_eq _
theorem s_GoodFrame.f_eq (k : Nat) (f_Kind : Int) (f_At : Int) (f_Epoch : Int) (f_Body : ByteArray) : s_GoodFrame.f k f_Kind f_At f_Epoch f_Body =
 (s_l1In.f k f_Kind (1 : Int) (255 : Int)).bind fun d0 =>
 cn d0
 ((s_l1In.f k f_At (0 : Int) (60000 : Int)).bind fun d1 =>
  cn d1
  ((s_l1In.f k f_Epoch (0 : Int) (60000 : Int)).bind fun d2 =>
   cn d2
   (some (decide ((↑f_Body.size : Int) ≤ (16 : Int))))
   (some false))
  (some false))
 (some false) := (opq_eq _).trans (by kernel_rfl)
abbrev s_l6Frame.s : Sig := ⟨101, [], [.val], [.agg [.int .i64, .int .i64, .int .i64, .str]], [.one .str], [], []⟩
noncomputable def s_l6Frame.C (k : Nat) : List (Nat × Ctr) := [(96, s_l6Bytes.s.ctr (fun x => s_l6Bytes.f k x.1 x.2)), (126, s_l6Low.s.ctr (fun x => s_l6Low.f k x)), (127, s_l5On.s.ctr (fun x => s_l5On.f k x.1 x.2))]
noncomputable def s_l6Frame.f (k : Nat) (f_Kind : Int) (f_At : Int) (f_Epoch : Int) (f_Body : ByteArray) : Option ByteArray := opq (s_l6Frame.s.run Try.prog (s_l6Frame.C k) k (f_Kind, f_At, f_Epoch, f_Body))
theorem s_l6Frame.ok (k : Nat) : CtrOk Try.prog 101 (s_l6Frame.s.ctr (fun x => s_l6Frame.f k x.1 x.2.1 x.2.2.1 x.2.2.2)) := sig_ok s_l6Frame.s (.cons (s_l6Bytes.ok k) (.cons (s_l6Low.ok k) (.cons (s_l5On.ok k) .nil))) (by kernel_rfl) fun _ => opq_eq _
theorem s_l6Frame.f_eq (k : Nat) (f_Kind : Int) (f_At : Int) (f_Epoch : Int) (f_Body : ByteArray) : s_l6Frame.f k f_Kind f_At f_Epoch f_Body =
 both
 ((s_l6Bytes.f k f_Kind (1 : Int)).bind fun d0 =>
  both
  ((s_l6Bytes.f k f_At (2 : Int)).bind fun d1 =>
   gd (decide (ByteArray.size d0 + ByteArray.size d1 ≤ (140737488355328 : Nat)))
   (both
    ((s_l6Bytes.f k f_Epoch (2 : Int)).bind fun d2 =>
     gd (decide ((d0 ++ d1).size + ByteArray.size d2 ≤ (140737488355328 : Nat)))
     (both
      ((s_l6Bytes.f k (↑f_Body.size : Int) (1 : Int)).bind fun d3 =>
       gd (decide ((d0 ++ d1 ++ d2).size + ByteArray.size d3 ≤ (140737488355328 : Nat)))
       (gd (decide ((d0 ++ d1 ++ d2 ++ d3).size + f_Body.size ≤ (140737488355328 : Nat)))
        (gd (mkOk (IntKind.i64.wrap (IntKind.i64.wrap ((16 : Int) - (↑f_Body.size : Int)) + (2 : Int))) (IntKind.i64.wrap (IntKind.i64.wrap ((16 : Int) - (↑f_Body.size : Int)) + (2 : Int))) (Try.prog.bytesOf (5 : Nat)))
         (gd (decide ((d0 ++ d1 ++ d2 ++ d3 ++ f_Body).size + (strOfNums (List.replicate (IntKind.i64.wrap (IntKind.i64.wrap ((16 : Int) - (↑f_Body.size : Int)) + (2 : Int))).toNat (0 : Int))).size ≤ (140737488355328 : Nat)))
          ((s_l5On.f k (0 : Int) (d0 ++ d1 ++ d2 ++ d3 ++ f_Body ++ strOfNums (List.replicate (IntKind.i64.wrap (IntKind.i64.wrap ((16 : Int) - (↑f_Body.size : Int)) + (2 : Int))).toNat (0 : Int)))).bind fun d4 =>
           (s_l6Low.f k d4).bind fun d5 =>
           gd (decide ((d0 ++ d1 ++ d2 ++ d3 ++ f_Body ++ strOfNums (List.replicate (IntKind.i64.wrap (IntKind.i64.wrap ((16 : Int) - (↑f_Body.size : Int)) + (2 : Int))).toNat (0 : Int))).size + ByteArray.size d5 ≤ (140737488355328 : Nat)))
           (some (d0 ++ d1 ++ d2 ++ d3 ++ f_Body ++ strOfNums (List.replicate (IntKind.i64.wrap (IntKind.i64.wrap ((16 : Int) - (↑f_Body.size : Int)) + (2 : Int))).toNat (0 : Int)) ++ d5)))))))
      (gd (mkOk (IntKind.i64.wrap (IntKind.i64.wrap ((16 : Int) - (↑f_Body.size : Int)) + (2 : Int))) (IntKind.i64.wrap (IntKind.i64.wrap ((16 : Int) - (↑f_Body.size : Int)) + (2 : Int))) (Try.prog.bytesOf (5 : Nat)))
       (both
        ((s_l6Bytes.f k (↑f_Body.size : Int) (1 : Int)).bind fun d6 =>
         gd (decide ((d0 ++ d1 ++ d2).size + ByteArray.size d6 ≤ (140737488355328 : Nat)))
         (gd (decide ((d0 ++ d1 ++ d2 ++ d6).size + f_Body.size ≤ (140737488355328 : Nat)))
          (gd (decide ((d0 ++ d1 ++ d2 ++ d6 ++ f_Body).size + (strOfNums (List.replicate (IntKind.i64.wrap (IntKind.i64.wrap ((16 : Int) - (↑f_Body.size : Int)) + (2 : Int))).toNat (0 : Int))).size ≤ (140737488355328 : Nat)))
           ((s_l5On.f k (0 : Int) (d0 ++ d1 ++ d2 ++ d6 ++ f_Body ++ strOfNums (List.replicate (IntKind.i64.wrap (IntKind.i64.wrap ((16 : Int) - (↑f_Body.size : Int)) + (2 : Int))).toNat (0 : Int)))).bind fun d7 =>
            (s_l6Low.f k d7).bind fun d8 =>
            gd (decide ((d0 ++ d1 ++ d2 ++ d6 ++ f_Body ++ strOfNums (List.replicate (IntKind.i64.wrap (IntKind.i64.wrap ((16 : Int) - (↑f_Body.size : Int)) + (2 : Int))).toNat (0 : Int))).size + ByteArray.size d8 ≤ (140737488355328 : Nat)))
            (some (d0 ++ d1 ++ d2 ++ d6 ++ f_Body ++ strOfNums (List.replicate (IntKind.i64.wrap (IntKind.i64.wrap ((16 : Int) - (↑f_Body.size : Int)) + (2 : Int))).toNat (0 : Int)) ++ d8))))))
        ((s_l6Bytes.f k (↑f_Body.size : Int) (1 : Int)).bind fun d9 =>
         gd (decide ((d0 ++ d1 ++ d2).size + ByteArray.size d9 ≤ (140737488355328 : Nat)))
         (gd (decide ((d0 ++ d1 ++ d2 ++ d9).size + f_Body.size ≤ (140737488355328 : Nat)))
          (gd (decide ((d0 ++ d1 ++ d2 ++ d9 ++ f_Body).size + (strOfNums (List.replicate (IntKind.i64.wrap (IntKind.i64.wrap ((16 : Int) - (↑f_Body.size : Int)) + (2 : Int))).toNat (0 : Int))).size ≤ (140737488355328 : Nat)))
           ((s_l5On.f k (0 : Int) (d0 ++ d1 ++ d2 ++ d9 ++ f_Body ++ strOfNums (List.replicate (IntKind.i64.wrap (IntKind.i64.wrap ((16 : Int) - (↑f_Body.size : Int)) + (2 : Int))).toNat (0 : Int)))).bind fun d10 =>
            (s_l6Low.f k d10).bind fun d11 =>
            gd (decide ((d0 ++ d1 ++ d2 ++ d9 ++ f_Body ++ strOfNums (List.replicate (IntKind.i64.wrap (IntKind.i64.wrap ((16 : Int) - (↑f_Body.size : Int)) + (2 : Int))).toNat (0 : Int))).size + ByteArray.size d11 ≤ (140737488355328 : Nat)))
            (some (d0 ++ d1 ++ d2 ++ d9 ++ f_Body ++ strOfNums (List.replicate (IntKind.i64.wrap (IntKind.i64.wrap ((16 : Int) - (↑f_Body.size : Int)) + (2 : Int))).toNat (0 : Int)) ++ d11))))))))))
    (gd (mkOk (IntKind.i64.wrap (IntKind.i64.wrap ((16 : Int) - (↑f_Body.size : Int)) + (2 : Int))) (IntKind.i64.wrap (IntKind.i64.wrap ((16 : Int) - (↑f_Body.size : Int)) + (2 : Int))) (Try.prog.bytesOf (5 : Nat)))
     (both
      ((s_l6Bytes.f k f_Epoch (2 : Int)).bind fun d12 =>
       gd (decide ((d0 ++ d1).size + ByteArray.size d12 ≤ (140737488355328 : Nat)))
       (both
        ((s_l6Bytes.f k (↑f_Body.size : Int) (1 : Int)).bind fun d13 =>
         gd (decide ((d0 ++ d1 ++ d12).size + ByteArray.size d13 ≤ (140737488355328 : Nat)))
         (gd (decide ((d0 ++ d1 ++ d12 ++ d13).size + f_Body.size ≤ (140737488355328 : Nat)))
          (gd (decide ((d0 ++ d1 ++ d12 ++ d13 ++ f_Body).size + (strOfNums (List.replicate (IntKind.i64.wrap (IntKind.i64.wrap ((16 : Int) - (↑f_Body.size : Int)) + (2 : Int))).toNat (0 : Int))).size ≤ (140737488355328 : Nat)))
           ((s_l5On.f k (0 : Int) (d0 ++ d1 ++ d12 ++ d13 ++ f_Body ++ strOfNums (List.replicate (IntKind.i64.wrap (IntKind.i64.wrap ((16 : Int) - (↑f_Body.size : Int)) + (2 : Int))).toNat (0 : Int)))).bind fun d14 =>
            (s_l6Low.f k d14).bind fun d15 =>
            gd (decide ((d0 ++ d1 ++ d12 ++ d13 ++ f_Body ++ strOfNums (List.replicate (IntKind.i64.wrap (IntKind.i64.wrap ((16 : Int) - (↑f_Body.size : Int)) + (2 : Int))).toNat (0 : Int))).size + ByteArray.size d15 ≤ (140737488355328 : Nat)))
            (some (d0 ++ d1 ++ d12 ++ d13 ++ f_Body ++ strOfNums (List.replicate (IntKind.i64.wrap (IntKind.i64.wrap ((16 : Int) - (↑f_Body.size : Int)) + (2 : Int))).toNat (0 : Int)) ++ d15))))))
        ((s_l6Bytes.f k (↑f_Body.size : Int) (1 : Int)).bind fun d16 =>
         gd (decide ((d0 ++ d1 ++ d12).size + ByteArray.size d16 ≤ (140737488355328 : Nat)))
         (gd (decide ((d0 ++ d1 ++ d12 ++ d16).size + f_Body.size ≤ (140737488355328 : Nat)))
          (gd (decide ((d0 ++ d1 ++ d12 ++ d16 ++ f_Body).size + (strOfNums (List.replicate (IntKind.i64.wrap (IntKind.i64.wrap ((16 : Int) - (↑f_Body.size : Int)) + (2 : Int))).toNat (0 : Int))).size ≤ (140737488355328 : Nat)))
           ((s_l5On.f k (0 : Int) (d0 ++ d1 ++ d12 ++ d16 ++ f_Body ++ strOfNums (List.replicate (IntKind.i64.wrap (IntKind.i64.wrap ((16 : Int) - (↑f_Body.size : Int)) + (2 : Int))).toNat (0 : Int)))).bind fun d17 =>
            (s_l6Low.f k d17).bind fun d18 =>
            gd (decide ((d0 ++ d1 ++ d12 ++ d16 ++ f_Body ++ strOfNums (List.replicate (IntKind.i64.wrap (IntKind.i64.wrap ((16 : Int) - (↑f_Body.size : Int)) + (2 : Int))).toNat (0 : Int))).size + ByteArray.size d18 ≤ (140737488355328 : Nat)))
            (some (d0 ++ d1 ++ d12 ++ d16 ++ f_Body ++ strOfNums (List.replicate (IntKind.i64.wrap (IntKind.i64.wrap ((16 : Int) - (↑f_Body.size : Int)) + (2 : Int))).toNat (0 : Int)) ++ d18))))))))
      ((s_l6Bytes.f k f_Epoch (2 : Int)).bind fun d19 =>
       gd (decide ((d0 ++ d1).size + ByteArray.size d19 ≤ (140737488355328 : Nat)))
       ((s_l6Bytes.f k (↑f_Body.size : Int) (1 : Int)).bind fun d20 =>
        gd (decide ((d0 ++ d1 ++ d19).size + ByteArray.size d20 ≤ (140737488355328 : Nat)))
        (gd (decide ((d0 ++ d1 ++ d19 ++ d20).size + f_Body.size ≤ (140737488355328 : Nat)))
         (gd (decide ((d0 ++ d1 ++ d19 ++ d20 ++ f_Body).size + (strOfNums (List.replicate (IntKind.i64.wrap (IntKind.i64.wrap ((16 : Int) - (↑f_Body.size : Int)) + (2 : Int))).toNat (0 : Int))).size ≤ (140737488355328 : Nat)))
          ((s_l5On.f k (0 : Int) (d0 ++ d1 ++ d19 ++ d20 ++ f_Body ++ strOfNums (List.replicate (IntKind.i64.wrap (IntKind.i64.wrap ((16 : Int) - (↑f_Body.size : Int)) + (2 : Int))).toNat (0 : Int)))).bind fun d21 =>
           (s_l6Low.f k d21).bind fun d22 =>
           gd (decide ((d0 ++ d1 ++ d19 ++ d20 ++ f_Body ++ strOfNums (List.replicate (IntKind.i64.wrap (IntKind.i64.wrap ((16 : Int) - (↑f_Body.size : Int)) + (2 : Int))).toNat (0 : Int))).size + ByteArray.size d22 ≤ (140737488355328 : Nat)))
           (some (d0 ++ d1 ++ d19 ++ d20 ++ f_Body ++ strOfNums (List.replicate (IntKind.i64.wrap (IntKind.i64.wrap ((16 : Int) - (↑f_Body.size : Int)) + (2 : Int))).toNat (0 : Int)) ++ d22)))))))))))
  (gd (mkOk (IntKind.i64.wrap (IntKind.i64.wrap ((16 : Int) - (↑f_Body.size : Int)) + (2 : Int))) (IntKind.i64.wrap (IntKind.i64.wrap ((16 : Int) - (↑f_Body.size : Int)) + (2 : Int))) (Try.prog.bytesOf (5 : Nat)))
   (both
    ((s_l6Bytes.f k f_At (2 : Int)).bind fun d23 =>
     gd (decide (ByteArray.size d0 + ByteArray.size d23 ≤ (140737488355328 : Nat)))
     (both
      ((s_l6Bytes.f k f_Epoch (2 : Int)).bind fun d24 =>
       gd (decide ((d0 ++ d23).size + ByteArray.size d24 ≤ (140737488355328 : Nat)))
       (both
        ((s_l6Bytes.f k (↑f_Body.size : Int) (1 : Int)).bind fun d25 =>
         gd (decide ((d0 ++ d23 ++ d24).size + ByteArray.size d25 ≤ (140737488355328 : Nat)))
         (gd (decide ((d0 ++ d23 ++ d24 ++ d25).size + f_Body.size ≤ (140737488355328 : Nat)))
          (gd (decide ((d0 ++ d23 ++ d24 ++ d25 ++ f_Body).size + (strOfNums (List.replicate (IntKind.i64.wrap (IntKind.i64.wrap ((16 : Int) - (↑f_Body.size : Int)) + (2 : Int))).toNat (0 : Int))).size ≤ (140737488355328 : Nat)))
           ((s_l5On.f k (0 : Int) (d0 ++ d23 ++ d24 ++ d25 ++ f_Body ++ strOfNums (List.replicate (IntKind.i64.wrap (IntKind.i64.wrap ((16 : Int) - (↑f_Body.size : Int)) + (2 : Int))).toNat (0 : Int)))).bind fun d26 =>
            (s_l6Low.f k d26).bind fun d27 =>
            gd (decide ((d0 ++ d23 ++ d24 ++ d25 ++ f_Body ++ strOfNums (List.replicate (IntKind.i64.wrap (IntKind.i64.wrap ((16 : Int) - (↑f_Body.size : Int)) + (2 : Int))).toNat (0 : Int))).size + ByteArray.size d27 ≤ (140737488355328 : Nat)))
            (some (d0 ++ d23 ++ d24 ++ d25 ++ f_Body ++ strOfNums (List.replicate (IntKind.i64.wrap (IntKind.i64.wrap ((16 : Int) - (↑f_Body.size : Int)) + (2 : Int))).toNat (0 : Int)) ++ d27))))))
        ((s_l6Bytes.f k (↑f_Body.size : Int) (1 : Int)).bind fun d28 =>
         gd (decide ((d0 ++ d23 ++ d24).size + ByteArray.size d28 ≤ (140737488355328 : Nat)))
         (gd (decide ((d0 ++ d23 ++ d24 ++ d28).size + f_Body.size ≤ (140737488355328 : Nat)))
          (gd (decide ((d0 ++ d23 ++ d24 ++ d28 ++ f_Body).size + (strOfNums (List.replicate (IntKind.i64.wrap (IntKind.i64.wrap ((16 : Int) - (↑f_Body.size : Int)) + (2 : Int))).toNat (0 : Int))).size ≤ (140737488355328 : Nat)))
           ((s_l5On.f k (0 : Int) (d0 ++ d23 ++ d24 ++ d28 ++ f_Body ++ strOfNums (List.replicate (IntKind.i64.wrap (IntKind.i64.wrap ((16 : Int) - (↑f_Body.size : Int)) + (2 : Int))).toNat (0 : Int)))).bind fun d29 =>
            (s_l6Low.f k d29).bind fun d30 =>
            gd (decide ((d0 ++ d23 ++ d24 ++ d28 ++ f_Body ++ strOfNums (List.replicate (IntKind.i64.wrap (IntKind.i64.wrap ((16 : Int) - (↑f_Body.size : Int)) + (2 : Int))).toNat (0 : Int))).size + ByteArray.size d30 ≤ (140737488355328 : Nat)))
            (some (d0 ++ d23 ++ d24 ++ d28 ++ f_Body ++ strOfNums (List.replicate (IntKind.i64.wrap (IntKind.i64.wrap ((16 : Int) - (↑f_Body.size : Int)) + (2 : Int))).toNat (0 : Int)) ++ d30))))))))
      ((s_l6Bytes.f k f_Epoch (2 : Int)).bind fun d31 =>
       gd (decide ((d0 ++ d23).size + ByteArray.size d31 ≤ (140737488355328 : Nat)))
       ((s_l6Bytes.f k (↑f_Body.size : Int) (1 : Int)).bind fun d32 =>
        gd (decide ((d0 ++ d23 ++ d31).size + ByteArray.size d32 ≤ (140737488355328 : Nat)))
        (gd (decide ((d0 ++ d23 ++ d31 ++ d32).size + f_Body.size ≤ (140737488355328 : Nat)))
         (gd (decide ((d0 ++ d23 ++ d31 ++ d32 ++ f_Body).size + (strOfNums (List.replicate (IntKind.i64.wrap (IntKind.i64.wrap ((16 : Int) - (↑f_Body.size : Int)) + (2 : Int))).toNat (0 : Int))).size ≤ (140737488355328 : Nat)))
          ((s_l5On.f k (0 : Int) (d0 ++ d23 ++ d31 ++ d32 ++ f_Body ++ strOfNums (List.replicate (IntKind.i64.wrap (IntKind.i64.wrap ((16 : Int) - (↑f_Body.size : Int)) + (2 : Int))).toNat (0 : Int)))).bind fun d33 =>
           (s_l6Low.f k d33).bind fun d34 =>
           gd (decide ((d0 ++ d23 ++ d31 ++ d32 ++ f_Body ++ strOfNums (List.replicate (IntKind.i64.wrap (IntKind.i64.wrap ((16 : Int) - (↑f_Body.size : Int)) + (2 : Int))).toNat (0 : Int))).size + ByteArray.size d34 ≤ (140737488355328 : Nat)))
           (some (d0 ++ d23 ++ d31 ++ d32 ++ f_Body ++ strOfNums (List.replicate (IntKind.i64.wrap (IntKind.i64.wrap ((16 : Int) - (↑f_Body.size : Int)) + (2 : Int))).toNat (0 : Int)) ++ d34)))))))))
    ((s_l6Bytes.f k f_At (2 : Int)).bind fun d35 =>
     gd (decide (ByteArray.size d0 + ByteArray.size d35 ≤ (140737488355328 : Nat)))
     ((s_l6Bytes.f k f_Epoch (2 : Int)).bind fun d36 =>
      gd (decide ((d0 ++ d35).size + ByteArray.size d36 ≤ (140737488355328 : Nat)))
      ((s_l6Bytes.f k (↑f_Body.size : Int) (1 : Int)).bind fun d37 =>
       gd (decide ((d0 ++ d35 ++ d36).size + ByteArray.size d37 ≤ (140737488355328 : Nat)))
       (gd (decide ((d0 ++ d35 ++ d36 ++ d37).size + f_Body.size ≤ (140737488355328 : Nat)))
        (gd (decide ((d0 ++ d35 ++ d36 ++ d37 ++ f_Body).size + (strOfNums (List.replicate (IntKind.i64.wrap (IntKind.i64.wrap ((16 : Int) - (↑f_Body.size : Int)) + (2 : Int))).toNat (0 : Int))).size ≤ (140737488355328 : Nat)))
         ((s_l5On.f k (0 : Int) (d0 ++ d35 ++ d36 ++ d37 ++ f_Body ++ strOfNums (List.replicate (IntKind.i64.wrap (IntKind.i64.wrap ((16 : Int) - (↑f_Body.size : Int)) + (2 : Int))).toNat (0 : Int)))).bind fun d38 =>
          (s_l6Low.f k d38).bind fun d39 =>
          gd (decide ((d0 ++ d35 ++ d36 ++ d37 ++ f_Body ++ strOfNums (List.replicate (IntKind.i64.wrap (IntKind.i64.wrap ((16 : Int) - (↑f_Body.size : Int)) + (2 : Int))).toNat (0 : Int))).size + ByteArray.size d39 ≤ (140737488355328 : Nat)))
          (some (d0 ++ d35 ++ d36 ++ d37 ++ f_Body ++ strOfNums (List.replicate (IntKind.i64.wrap (IntKind.i64.wrap ((16 : Int) - (↑f_Body.size : Int)) + (2 : Int))).toNat (0 : Int)) ++ d39)))))))))))
 (gd (mkOk (IntKind.i64.wrap (IntKind.i64.wrap ((16 : Int) - (↑f_Body.size : Int)) + (2 : Int))) (IntKind.i64.wrap (IntKind.i64.wrap ((16 : Int) - (↑f_Body.size : Int)) + (2 : Int))) (Try.prog.bytesOf (5 : Nat)))
  (both
   ((s_l6Bytes.f k f_Kind (1 : Int)).bind fun d40 =>
    both
    ((s_l6Bytes.f k f_At (2 : Int)).bind fun d41 =>
     gd (decide (ByteArray.size d40 + ByteArray.size d41 ≤ (140737488355328 : Nat)))
     (both
      ((s_l6Bytes.f k f_Epoch (2 : Int)).bind fun d42 =>
       gd (decide ((d40 ++ d41).size + ByteArray.size d42 ≤ (140737488355328 : Nat)))
       (both
        ((s_l6Bytes.f k (↑f_Body.size : Int) (1 : Int)).bind fun d43 =>
         gd (decide ((d40 ++ d41 ++ d42).size + ByteArray.size d43 ≤ (140737488355328 : Nat)))
         (gd (decide ((d40 ++ d41 ++ d42 ++ d43).size + f_Body.size ≤ (140737488355328 : Nat)))
          (gd (decide ((d40 ++ d41 ++ d42 ++ d43 ++ f_Body).size + (strOfNums (List.replicate (IntKind.i64.wrap (IntKind.i64.wrap ((16 : Int) - (↑f_Body.size : Int)) + (2 : Int))).toNat (0 : Int))).size ≤ (140737488355328 : Nat)))
           ((s_l5On.f k (0 : Int) (d40 ++ d41 ++ d42 ++ d43 ++ f_Body ++ strOfNums (List.replicate (IntKind.i64.wrap (IntKind.i64.wrap ((16 : Int) - (↑f_Body.size : Int)) + (2 : Int))).toNat (0 : Int)))).bind fun d44 =>
            (s_l6Low.f k d44).bind fun d45 =>
            gd (decide ((d40 ++ d41 ++ d42 ++ d43 ++ f_Body ++ strOfNums (List.replicate (IntKind.i64.wrap (IntKind.i64.wrap ((16 : Int) - (↑f_Body.size : Int)) + (2 : Int))).toNat (0 : Int))).size + ByteArray.size d45 ≤ (140737488355328 : Nat)))
            (some (d40 ++ d41 ++ d42 ++ d43 ++ f_Body ++ strOfNums (List.replicate (IntKind.i64.wrap (IntKind.i64.wrap ((16 : Int) - (↑f_Body.size : Int)) + (2 : Int))).toNat (0 : Int)) ++ d45))))))
        ((s_l6Bytes.f k (↑f_Body.size : Int) (1 : Int)).bind fun d46 =>
         gd (decide ((d40 ++ d41 ++ d42).size + ByteArray.size d46 ≤ (140737488355328 : Nat)))
         (gd (decide ((d40 ++ d41 ++ d42 ++ d46).size + f_Body.size ≤ (140737488355328 : Nat)))
          (gd (decide ((d40 ++ d41 ++ d42 ++ d46 ++ f_Body).size + (strOfNums (List.replicate (IntKind.i64.wrap (IntKind.i64.wrap ((16 : Int) - (↑f_Body.size : Int)) + (2 : Int))).toNat (0 : Int))).size ≤ (140737488355328 : Nat)))
           ((s_l5On.f k (0 : Int) (d40 ++ d41 ++ d42 ++ d46 ++ f_Body ++ strOfNums (List.replicate (IntKind.i64.wrap (IntKind.i64.wrap ((16 : Int) - (↑f_Body.size : Int)) + (2 : Int))).toNat (0 : Int)))).bind fun d47 =>
            (s_l6Low.f k d47).bind fun d48 =>
            gd (decide ((d40 ++ d41 ++ d42 ++ d46 ++ f_Body ++ strOfNums (List.replicate (IntKind.i64.wrap (IntKind.i64.wrap ((16 : Int) - (↑f_Body.size : Int)) + (2 : Int))).toNat (0 : Int))).size + ByteArray.size d48 ≤ (140737488355328 : Nat)))
            (some (d40 ++ d41 ++ d42 ++ d46 ++ f_Body ++ strOfNums (List.replicate (IntKind.i64.wrap (IntKind.i64.wrap ((16 : Int) - (↑f_Body.size : Int)) + (2 : Int))).toNat (0 : Int)) ++ d48))))))))
      ((s_l6Bytes.f k f_Epoch (2 : Int)).bind fun d49 =>
       gd (decide ((d40 ++ d41).size + ByteArray.size d49 ≤ (140737488355328 : Nat)))
       ((s_l6Bytes.f k (↑f_Body.size : Int) (1 : Int)).bind fun d50 =>
        gd (decide ((d40 ++ d41 ++ d49).size + ByteArray.size d50 ≤ (140737488355328 : Nat)))
        (gd (decide ((d40 ++ d41 ++ d49 ++ d50).size + f_Body.size ≤ (140737488355328 : Nat)))
         (gd (decide ((d40 ++ d41 ++ d49 ++ d50 ++ f_Body).size + (strOfNums (List.replicate (IntKind.i64.wrap (IntKind.i64.wrap ((16 : Int) - (↑f_Body.size : Int)) + (2 : Int))).toNat (0 : Int))).size ≤ (140737488355328 : Nat)))
          ((s_l5On.f k (0 : Int) (d40 ++ d41 ++ d49 ++ d50 ++ f_Body ++ strOfNums (List.replicate (IntKind.i64.wrap (IntKind.i64.wrap ((16 : Int) - (↑f_Body.size : Int)) + (2 : Int))).toNat (0 : Int)))).bind fun d51 =>
           (s_l6Low.f k d51).bind fun d52 =>
           gd (decide ((d40 ++ d41 ++ d49 ++ d50 ++ f_Body ++ strOfNums (List.replicate (IntKind.i64.wrap (IntKind.i64.wrap ((16 : Int) - (↑f_Body.size : Int)) + (2 : Int))).toNat (0 : Int))).size + ByteArray.size d52 ≤ (140737488355328 : Nat)))
           (some (d40 ++ d41 ++ d49 ++ d50 ++ f_Body ++ strOfNums (List.replicate (IntKind.i64.wrap (IntKind.i64.wrap ((16 : Int) - (↑f_Body.size : Int)) + (2 : Int))).toNat (0 : Int)) ++ d52)))))))))
    ((s_l6Bytes.f k f_At (2 : Int)).bind fun d53 =>
     gd (decide (ByteArray.size d40 + ByteArray.size d53 ≤ (140737488355328 : Nat)))
     ((s_l6Bytes.f k f_Epoch (2 : Int)).bind fun d54 =>
      gd (decide ((d40 ++ d53).size + ByteArray.size d54 ≤ (140737488355328 : Nat)))
      ((s_l6Bytes.f k (↑f_Body.size : Int) (1 : Int)).bind fun d55 =>
       gd (decide ((d40 ++ d53 ++ d54).size + ByteArray.size d55 ≤ (140737488355328 : Nat)))
       (gd (decide ((d40 ++ d53 ++ d54 ++ d55).size + f_Body.size ≤ (140737488355328 : Nat)))
        (gd (decide ((d40 ++ d53 ++ d54 ++ d55 ++ f_Body).size + (strOfNums (List.replicate (IntKind.i64.wrap (IntKind.i64.wrap ((16 : Int) - (↑f_Body.size : Int)) + (2 : Int))).toNat (0 : Int))).size ≤ (140737488355328 : Nat)))
         ((s_l5On.f k (0 : Int) (d40 ++ d53 ++ d54 ++ d55 ++ f_Body ++ strOfNums (List.replicate (IntKind.i64.wrap (IntKind.i64.wrap ((16 : Int) - (↑f_Body.size : Int)) + (2 : Int))).toNat (0 : Int)))).bind fun d56 =>
          (s_l6Low.f k d56).bind fun d57 =>
          gd (decide ((d40 ++ d53 ++ d54 ++ d55 ++ f_Body ++ strOfNums (List.replicate (IntKind.i64.wrap (IntKind.i64.wrap ((16 : Int) - (↑f_Body.size : Int)) + (2 : Int))).toNat (0 : Int))).size + ByteArray.size d57 ≤ (140737488355328 : Nat)))
          (some (d40 ++ d53 ++ d54 ++ d55 ++ f_Body ++ strOfNums (List.replicate (IntKind.i64.wrap (IntKind.i64.wrap ((16 : Int) - (↑f_Body.size : Int)) + (2 : Int))).toNat (0 : Int)) ++ d57)))))))))
   ((s_l6Bytes.f k f_Kind (1 : Int)).bind fun d58 =>
    (s_l6Bytes.f k f_At (2 : Int)).bind fun d59 =>
    gd (decide (ByteArray.size d58 + ByteArray.size d59 ≤ (140737488355328 : Nat)))
    ((s_l6Bytes.f k f_Epoch (2 : Int)).bind fun d60 =>
     gd (decide ((d58 ++ d59).size + ByteArray.size d60 ≤ (140737488355328 : Nat)))
     ((s_l6Bytes.f k (↑f_Body.size : Int) (1 : Int)).bind fun d61 =>
      gd (decide ((d58 ++ d59 ++ d60).size + ByteArray.size d61 ≤ (140737488355328 : Nat)))
      (gd (decide ((d58 ++ d59 ++ d60 ++ d61).size + f_Body.size ≤ (140737488355328 : Nat)))
       (gd (decide ((d58 ++ d59 ++ d60 ++ d61 ++ f_Body).size + (strOfNums (List.replicate (IntKind.i64.wrap (IntKind.i64.wrap ((16 : Int) - (↑f_Body.size : Int)) + (2 : Int))).toNat (0 : Int))).size ≤ (140737488355328 : Nat)))
        ((s_l5On.f k (0 : Int) (d58 ++ d59 ++ d60 ++ d61 ++ f_Body ++ strOfNums (List.replicate (IntKind.i64.wrap (IntKind.i64.wrap ((16 : Int) - (↑f_Body.size : Int)) + (2 : Int))).toNat (0 : Int)))).bind fun d62 =>
         (s_l6Low.f k d62).bind fun d63 =>
         gd (decide ((d58 ++ d59 ++ d60 ++ d61 ++ f_Body ++ strOfNums (List.replicate (IntKind.i64.wrap (IntKind.i64.wrap ((16 : Int) - (↑f_Body.size : Int)) + (2 : Int))).toNat (0 : Int))).size + ByteArray.size d63 ≤ (140737488355328 : Nat)))
         (some (d58 ++ d59 ++ d60 ++ d61 ++ f_Body ++ strOfNums (List.replicate (IntKind.i64.wrap (IntKind.i64.wrap ((16 : Int) - (↑f_Body.size : Int)) + (2 : Int))).toNat (0 : Int)) ++ d63)))))))))) := (opq_eq _).trans (by kernel_rfl)
abbrev s_ReadFrame.s : Sig := ⟨129, [], [.val], [.one .str], [.agg [.int .i64, .int .i64, .int .i64, .str], .one (.int .i64), .one .bool], [], []⟩
noncomputable def s_ReadFrame.C (k : Nat) : List (Nat × Ctr) := [(59, s_l6Value.s.ctr (fun x => s_l6Value.f k x)), (101, s_l6Frame.s.ctr (fun x => s_l6Frame.f k x.1 x.2.1 x.2.2.1 x.2.2.2)), (126, s_l6Low.s.ctr (fun x => s_l6Low.f k x)), (127, s_l5On.s.ctr (fun x => s_l5On.f k x.1 x.2)), (138, s_GoodFrame.s.ctr (fun x => s_GoodFrame.f k x.1 x.2.1 x.2.2.1 x.2.2.2))]
noncomputable def s_ReadFrame.f (k : Nat) (s : ByteArray) : Option ((Int × Int × Int × ByteArray) × Int × Bool) := opq (s_ReadFrame.s.run Try.prog (s_ReadFrame.C k) k s)
theorem s_ReadFrame.ok (k : Nat) : CtrOk Try.prog 129 (s_ReadFrame.s.ctr (fun x => s_ReadFrame.f k x)) := sig_ok s_ReadFrame.s (.cons (s_l6Value.ok k) (.cons (s_l6Frame.ok k) (.cons (s_l6Low.ok k) (.cons (s_l5On.ok k) (.cons (s_GoodFrame.ok k) .nil))))) (by kernel_rfl) fun _ => opq_eq _
theorem s_ReadFrame.f_eq (k : Nat) (s : ByteArray) : s_ReadFrame.f k s =
 cn (!decide ((↑s.size : Int) = (28 : Int)))
 (some ((((0 : Int), (0 : Int), (0 : Int), ByteArray.empty), (1 : Int), false)))
 (gd (true && decide ((24 : Int) ≤ (↑s.size : Int)))
  (gd (true && decide ((24 : Int) ≤ (↑s.size : Int)))
   ((s_l5On.f k (0 : Int) (s.extract (0 : Nat) (24 : Nat))).bind fun d0 =>
    (s_l6Low.f k d0).bind fun d1 =>
    cn (!decide (ByteArray.toList d1 = (s.extract (24 : Nat) s.size).toList))
    (some ((((0 : Int), (0 : Int), (0 : Int), ByteArray.empty), (2 : Int), false)))
    (gd (true && decide ((1 : Int) ≤ (↑s.size : Int)))
     (gd (true && (true && decide ((3 : Int) ≤ (↑s.size : Int))))
      (gd (true && (true && decide ((5 : Int) ≤ (↑s.size : Int))))
       (both
        ((s_l6Value.f k (s.extract (0 : Nat) (1 : Nat))).bind fun d2 =>
         both
         ((s_l6Value.f k (s.extract (1 : Nat) (3 : Nat))).bind fun d3 =>
          both
          ((s_l6Value.f k (s.extract (3 : Nat) (5 : Nat))).bind fun d4 =>
           gd (inb (5 : Int) s.size)
           (cn (decide ((16 : Int) < IntKind.i64.wrap (↑(s.data.getD (5 : Nat) (0 : UInt8)).toNat : Int)))
            (some ((((0 : Int), (0 : Int), (0 : Int), ByteArray.empty), (3 : Int), false)))
            (gd (true && (decide ((6 : Int) ≤ IntKind.i64.wrap ((6 : Int) + IntKind.i64.wrap (↑(s.data.getD (5 : Nat) (0 : UInt8)).toNat : Int))) && decide (IntKind.i64.wrap ((6 : Int) + IntKind.i64.wrap (↑(s.data.getD (5 : Nat) (0 : UInt8)).toNat : Int)) ≤ (↑s.size : Int))))
             ((s_GoodFrame.f k d2 d3 d4 (s.extract (6 : Nat) (IntKind.i64.wrap ((6 : Int) + IntKind.i64.wrap (↑(s.data.getD (5 : Nat) (0 : UInt8)).toNat : Int))).toNat)).bind fun d5 =>
              cn (!d5)
              (some ((((0 : Int), (0 : Int), (0 : Int), ByteArray.empty), (3 : Int), false)))
              ((s_l6Frame.f k d2 d3 d4 (s.extract (6 : Nat) (IntKind.i64.wrap ((6 : Int) + IntKind.i64.wrap (↑(s.data.getD (5 : Nat) (0 : UInt8)).toNat : Int))).toNat)).bind fun d6 =>
               cn (!decide (ByteArray.toList d6 = s.toList))
               (some ((((0 : Int), (0 : Int), (0 : Int), ByteArray.empty), (3 : Int), false)))
               (some (((d2, d3, d4, s.extract (6 : Nat) (IntKind.i64.wrap ((6 : Int) + IntKind.i64.wrap (↑(s.data.getD (5 : Nat) (0 : UInt8)).toNat : Int))).toNat), (0 : Int), true))))))))
          ((s_l6Value.f k (s.extract (3 : Nat) (5 : Nat))).bind fun d7 =>
           gd (inb (5 : Int) s.size)
           (cn (decide ((16 : Int) < IntKind.i64.wrap (↑(s.data.getD (5 : Nat) (0 : UInt8)).toNat : Int)))
            (some ((((0 : Int), (0 : Int), (0 : Int), ByteArray.empty), (3 : Int), false)))
            (gd (true && (decide ((6 : Int) ≤ IntKind.i64.wrap ((6 : Int) + IntKind.i64.wrap (↑(s.data.getD (5 : Nat) (0 : UInt8)).toNat : Int))) && decide (IntKind.i64.wrap ((6 : Int) + IntKind.i64.wrap (↑(s.data.getD (5 : Nat) (0 : UInt8)).toNat : Int)) ≤ (↑s.size : Int))))
             ((s_GoodFrame.f k d2 d3 d7 (s.extract (6 : Nat) (IntKind.i64.wrap ((6 : Int) + IntKind.i64.wrap (↑(s.data.getD (5 : Nat) (0 : UInt8)).toNat : Int))).toNat)).bind fun d8 =>
              cn (!d8)
              (some ((((0 : Int), (0 : Int), (0 : Int), ByteArray.empty), (3 : Int), false)))
              ((s_l6Frame.f k d2 d3 d7 (s.extract (6 : Nat) (IntKind.i64.wrap ((6 : Int) + IntKind.i64.wrap (↑(s.data.getD (5 : Nat) (0 : UInt8)).toNat : Int))).toNat)).bind fun d9 =>
               cn (!decide (ByteArray.toList d9 = s.toList))
               (some ((((0 : Int), (0 : Int), (0 : Int), ByteArray.empty), (3 : Int), false)))
               (some (((d2, d3, d7, s.extract (6 : Nat) (IntKind.i64.wrap ((6 : Int) + IntKind.i64.wrap (↑(s.data.getD (5 : Nat) (0 : UInt8)).toNat : Int))).toNat), (0 : Int), true)))))))))
         ((s_l6Value.f k (s.extract (1 : Nat) (3 : Nat))).bind fun d10 =>
          (s_l6Value.f k (s.extract (3 : Nat) (5 : Nat))).bind fun d11 =>
          gd (inb (5 : Int) s.size)
          (cn (decide ((16 : Int) < IntKind.i64.wrap (↑(s.data.getD (5 : Nat) (0 : UInt8)).toNat : Int)))
           (some ((((0 : Int), (0 : Int), (0 : Int), ByteArray.empty), (3 : Int), false)))
           (gd (true && (decide ((6 : Int) ≤ IntKind.i64.wrap ((6 : Int) + IntKind.i64.wrap (↑(s.data.getD (5 : Nat) (0 : UInt8)).toNat : Int))) && decide (IntKind.i64.wrap ((6 : Int) + IntKind.i64.wrap (↑(s.data.getD (5 : Nat) (0 : UInt8)).toNat : Int)) ≤ (↑s.size : Int))))
            ((s_GoodFrame.f k d2 d10 d11 (s.extract (6 : Nat) (IntKind.i64.wrap ((6 : Int) + IntKind.i64.wrap (↑(s.data.getD (5 : Nat) (0 : UInt8)).toNat : Int))).toNat)).bind fun d12 =>
             cn (!d12)
             (some ((((0 : Int), (0 : Int), (0 : Int), ByteArray.empty), (3 : Int), false)))
             ((s_l6Frame.f k d2 d10 d11 (s.extract (6 : Nat) (IntKind.i64.wrap ((6 : Int) + IntKind.i64.wrap (↑(s.data.getD (5 : Nat) (0 : UInt8)).toNat : Int))).toNat)).bind fun d13 =>
              cn (!decide (ByteArray.toList d13 = s.toList))
              (some ((((0 : Int), (0 : Int), (0 : Int), ByteArray.empty), (3 : Int), false)))
              (some (((d2, d10, d11, s.extract (6 : Nat) (IntKind.i64.wrap ((6 : Int) + IntKind.i64.wrap (↑(s.data.getD (5 : Nat) (0 : UInt8)).toNat : Int))).toNat), (0 : Int), true)))))))))
        ((s_l6Value.f k (s.extract (0 : Nat) (1 : Nat))).bind fun d14 =>
         (s_l6Value.f k (s.extract (1 : Nat) (3 : Nat))).bind fun d15 =>
         (s_l6Value.f k (s.extract (3 : Nat) (5 : Nat))).bind fun d16 =>
         gd (inb (5 : Int) s.size)
         (cn (decide ((16 : Int) < IntKind.i64.wrap (↑(s.data.getD (5 : Nat) (0 : UInt8)).toNat : Int)))
          (some ((((0 : Int), (0 : Int), (0 : Int), ByteArray.empty), (3 : Int), false)))
          (gd (true && (decide ((6 : Int) ≤ IntKind.i64.wrap ((6 : Int) + IntKind.i64.wrap (↑(s.data.getD (5 : Nat) (0 : UInt8)).toNat : Int))) && decide (IntKind.i64.wrap ((6 : Int) + IntKind.i64.wrap (↑(s.data.getD (5 : Nat) (0 : UInt8)).toNat : Int)) ≤ (↑s.size : Int))))
           ((s_GoodFrame.f k d14 d15 d16 (s.extract (6 : Nat) (IntKind.i64.wrap ((6 : Int) + IntKind.i64.wrap (↑(s.data.getD (5 : Nat) (0 : UInt8)).toNat : Int))).toNat)).bind fun d17 =>
            cn (!d17)
            (some ((((0 : Int), (0 : Int), (0 : Int), ByteArray.empty), (3 : Int), false)))
            ((s_l6Frame.f k d14 d15 d16 (s.extract (6 : Nat) (IntKind.i64.wrap ((6 : Int) + IntKind.i64.wrap (↑(s.data.getD (5 : Nat) (0 : UInt8)).toNat : Int))).toNat)).bind fun d18 =>
             cn (!decide (ByteArray.toList d18 = s.toList))
             (some ((((0 : Int), (0 : Int), (0 : Int), ByteArray.empty), (3 : Int), false)))
             (some (((d14, d15, d16, s.extract (6 : Nat) (IntKind.i64.wrap ((6 : Int) + IntKind.i64.wrap (↑(s.data.getD (5 : Nat) (0 : UInt8)).toNat : Int))).toNat), (0 : Int), true))))))))))))))) := (opq_eq _).trans (by kernel_rfl)
abbrev s_CheckFrame.s : Sig := ⟨106, [], [.val, .val, .val, .val], [.one .str, .one (.int .i64), .one (.int .i64), .one (.int .i64)], [.agg [.int .i64, .int .i64, .int .i64, .str], .one (.int .i64), .one .bool], [], []⟩
noncomputable def s_CheckFrame.C (k : Nat) : List (Nat × Ctr) := [(129, s_ReadFrame.s.ctr (fun x => s_ReadFrame.f k x))]
noncomputable def s_CheckFrame.f (k : Nat) (s : ByteArray) (kind : Int) (at_ : Int) (least : Int) : Option ((Int × Int × Int × ByteArray) × Int × Bool) := opq (s_CheckFrame.s.run Try.prog (s_CheckFrame.C k) k (s, kind, at_, least))
theorem s_CheckFrame.ok (k : Nat) : CtrOk Try.prog 106 (s_CheckFrame.s.ctr (fun x => s_CheckFrame.f k x.1 x.2.1 x.2.2.1 x.2.2.2)) := sig_ok s_CheckFrame.s (.cons (s_ReadFrame.ok k) .nil) (by kernel_rfl) fun _ => opq_eq _
theorem s_CheckFrame.f_eq (k : Nat) (s : ByteArray) (kind : Int) (at_ : Int) (least : Int) : s_CheckFrame.f k s kind at_ least =
 (s_ReadFrame.f k s).bind fun d0 =>
 cn (!d0.snd.snd)
 (some ((((0 : Int), (0 : Int), (0 : Int), ByteArray.empty), d0.snd.fst, false)))
 (cn (!decide (d0.fst.fst = kind))
  (some ((((0 : Int), (0 : Int), (0 : Int), ByteArray.empty), (3 : Int), false)))
  (cn (!decide (d0.fst.snd.fst = at_))
   (some ((((0 : Int), (0 : Int), (0 : Int), ByteArray.empty), (4 : Int), false)))
   (cn (decide (d0.fst.snd.snd.fst < least))
    (some ((((0 : Int), (0 : Int), (0 : Int), ByteArray.empty), (5 : Int), false)))
    (some (((d0.fst.fst, d0.fst.snd.fst, d0.fst.snd.snd.fst, d0.fst.snd.snd.snd), (0 : Int), true)))))) := (opq_eq _).trans (by kernel_rfl)
abbrev s_l15Half.s : Sig := ⟨102, [], [.val], [.one (.int .i64)], [.one (.int .i64)], [], []⟩
noncomputable def s_l15Half.C (k : Nat) : List (Nat × Ctr) := []
noncomputable def s_l15Half.f (k : Nat) (epoch : Int) : Option Int := opq (s_l15Half.s.run Try.prog (s_l15Half.C k) k epoch)
theorem s_l15Half.ok (k : Nat) : CtrOk Try.prog 102 (s_l15Half.s.ctr (fun x => s_l15Half.f k x)) := sig_ok s_l15Half.s .nil (by kernel_rfl) fun _ => opq_eq _
theorem s_l15Half.f_eq (k : Nat) (epoch : Int) : s_l15Half.f k epoch =
 some (IntKind.i64.wrap ((1 : Int) + IntKind.i64.wrap ((2 : Int) * epoch.tmod (2 : Int)))) := (opq_eq _).trans (by kernel_rfl)
abbrev s_StateFrom.s : Sig := ⟨19, [], [.val], [.one (.row 9 .str)], [.one (.own 3 (.int .i64)), .one .bool], [], [(0, [(4,false),(5,true),(6,false)])]⟩
noncomputable def s_StateFrom.C (k : Nat) : List (Nat × Ctr) := [(59, s_l6Value.s.ctr (fun x => s_l6Value.f k x))]
noncomputable def s_StateFrom.f (k : Nat) (l : List ByteArray) : Option (List Int × Bool) := opq (s_StateFrom.s.run Try.prog (s_StateFrom.C k) k l)
theorem s_StateFrom.ok (k : Nat) : CtrOk Try.prog 19 (s_StateFrom.s.ctr (fun x => s_StateFrom.f k x)) := sig_ok s_StateFrom.s (.cons (s_l6Value.ok k) .nil) (by kernel_rfl) fun _ => opq_eq _
noncomputable def s_StateFrom.l0 (k : Nat) (m : Nat) (s4 : ByteArray) (k6 : Int) (h1 : List Int) : Option (List Int × Bool) := s_StateFrom.s.head Try.prog (s_StateFrom.C k) k 1 0 [] m [(4, AV.str s4), (5, AV.ref 1), (6, AV.int IntKind.i64 k6)] [Root.dead, Root.rows 3 (Kind.int IntKind.i64) h1]
theorem s_StateFrom.l0_z (k : Nat) (s4 : ByteArray) (k6 : Int) (h1 : List Int) : s_StateFrom.l0 k 0 s4 k6 h1 = none := by kernel_rfl
theorem s_StateFrom.l0_s (k : Nat) (m : Nat) (s4 : ByteArray) (k6 : Int) (h1 : List Int) : s_StateFrom.l0 k (m + 1) s4 k6 h1 =
 cn (decide (k6 < (6 : Int)))
 (gd (decide ((0 : Int) ≤ IntKind.i64.wrap ((2 : Int) * k6)) && (decide (IntKind.i64.wrap ((2 : Int) * k6) ≤ IntKind.i64.wrap (IntKind.i64.wrap ((2 : Int) * k6) + (2 : Int))) && decide (IntKind.i64.wrap (IntKind.i64.wrap ((2 : Int) * k6) + (2 : Int)) ≤ (↑s4.size : Int))))
  ((s_l6Value.f k (s4.extract (IntKind.i64.wrap ((2 : Int) * k6)).toNat (IntKind.i64.wrap (IntKind.i64.wrap ((2 : Int) * k6) + (2 : Int))).toNat)).bind fun d0 =>
   gd (appOk (h1.length + [d0].length) (Try.prog.bytesOf (3 : Nat)))
   (s_StateFrom.l0 k m s4 (IntKind.i64.wrap (k6 + (1 : Int))) (h1 ++ [d0]))))
 (some ((h1, true))) := by kernel_rfl
theorem s_StateFrom.f_eq (k : Nat) (l : List ByteArray) : s_StateFrom.f k l =
 cn (!decide ((↑l.length : Int) = (2 : Int)))
 (some (([], false)))
 (gd (inb (0 : Int) l.length)
  (cn (!decide ((↑(getAt ByteArray.empty l (0 : Nat)).size : Int) = (6 : Int)))
   (some (([], false)))
   (gd (inb (1 : Int) l.length)
    (cn (!decide ((↑(getAt ByteArray.empty l (1 : Nat)).size : Int) = (6 : Int)))
     (some (([], false)))
     (gd (inb (0 : Int) l.length)
      (gd (inb (1 : Int) l.length)
       (gd (decide ((getAt ByteArray.empty l (0 : Nat)).size + (getAt ByteArray.empty l (1 : Nat)).size ≤ (140737488355328 : Nat)))
        (s_StateFrom.l0 k k (getAt ByteArray.empty l (0 : Nat) ++ getAt ByteArray.empty l (1 : Nat)) ((0 : Int)) ([]))))))))) := (opq_eq _).trans (by kernel_rfl)
abbrev s_l15Recover.s : Sig := ⟨72, [], [.val], [.agg [.row 9 .str, .row 9 .str, .row 4 .bool]], [.one (.own 3 (.int .i64)), .one (.int .i64)], [], [(0, [(1,false),(6,false),(9,false),(10,true),(11,false)])]⟩
noncomputable def s_l15Recover.C (k : Nat) : List (Nat × Ctr) := [(19, s_StateFrom.s.ctr (fun x => s_StateFrom.f k x)), (102, s_l15Half.s.ctr (fun x => s_l15Half.f k x)), (105, s_l7Read.s.ctr (fun x => s_l7Read.f k x.1.1 x.1.2.1 x.1.2.2 x.2)), (106, s_CheckFrame.s.ctr (fun x => s_CheckFrame.f k x.1 x.2.1 x.2.2.1 x.2.2.2))]
noncomputable def s_l15Recover.f (k : Nat) (d_Plate : List ByteArray) (d_Held : List ByteArray) (d_Bad : List Bool) : Option (List Int × Int) := opq (s_l15Recover.s.run Try.prog (s_l15Recover.C k) k (d_Plate, d_Held, d_Bad))
theorem s_l15Recover.ok (k : Nat) : CtrOk Try.prog 72 (s_l15Recover.s.ctr (fun x => s_l15Recover.f k x.1 x.2.1 x.2.2)) := sig_ok s_l15Recover.s (.cons (s_StateFrom.ok k) (.cons (s_l15Half.ok k) (.cons (s_l7Read.ok k) (.cons (s_CheckFrame.ok k) .nil)))) (by kernel_rfl) fun _ => opq_eq _
noncomputable def s_l15Recover.l0 (k : Nat) (m : Nat) (at9 : Int) (k11 : Int) (h1 : List ByteArray) (h1_ : List ByteArray) (h1__ : List Bool) (h2 : Int) (h2_ : Int) (h2__ : Int) (h2___ : ByteArray) (h3 : List ByteArray) : Option (List Int × Int) := s_l15Recover.s.head Try.prog (s_l15Recover.C k) k 1 0 [] m [(1, AV.ptr 1 0 0), (6, AV.ptr 2 0 0), (9, AV.int IntKind.i64 at9), (10, AV.ref 3), (11, AV.int IntKind.i64 k11)] [Root.dead, Root.box 38 [AV.row 9 Kind.str h1, AV.row 9 Kind.str h1_, AV.row 4 Kind.bool h1__], Root.box 98 [AV.int IntKind.i64 h2, AV.int IntKind.i64 h2_, AV.int IntKind.i64 h2__, AV.str h2___], Root.rows 9 Kind.str h3]
theorem s_l15Recover.l0_z (k : Nat) (at9 : Int) (k11 : Int) (h1 : List ByteArray) (h1_ : List ByteArray) (h1__ : List Bool) (h2 : Int) (h2_ : Int) (h2__ : Int) (h2___ : ByteArray) (h3 : List ByteArray) : s_l15Recover.l0 k 0 at9 k11 h1 h1_ h1__ h2 h2_ h2__ h2___ h3 = none := by kernel_rfl
theorem s_l15Recover.l0_s (k : Nat) (m : Nat) (at9 : Int) (k11 : Int) (h1 : List ByteArray) (h1_ : List ByteArray) (h1__ : List Bool) (h2 : Int) (h2_ : Int) (h2__ : Int) (h2___ : ByteArray) (h3 : List ByteArray) : s_l15Recover.l0 k (m + 1) at9 k11 h1 h1_ h1__ h2 h2_ h2__ h2___ h3 =
 cn (decide (k11 < (2 : Int)))
 ((s_l7Read.f k h1 h1_ h1__ (IntKind.i64.wrap (at9 + k11))).bind fun d4 =>
  (s_CheckFrame.f k d4.fst (3 : Int) (IntKind.i64.wrap (at9 + k11)) h2__).bind fun d5 =>
  cn (!d4.snd)
  (some (([], (-1 : Int))))
  (cn (!d5.snd.snd)
   (some (([], (-1 : Int))))
   (cn (!decide (d5.fst.snd.snd.fst = h2__))
    (some (([], (-1 : Int))))
    (gd (appOk (h3.length + [d5.fst.snd.snd.snd].length) (Try.prog.bytesOf (9 : Nat)))
     (s_l15Recover.l0 k m at9 (IntKind.i64.wrap (k11 + (1 : Int))) h1 h1_ h1__ h2 h2_ h2__ h2___ (h3 ++ [d5.fst.snd.snd.snd]))))))
 ((s_StateFrom.f k h3).bind fun d3 =>
  cn (!d3.snd)
  (some (([], (-1 : Int))))
  (some ((d3.fst, h2__)))) := by kernel_rfl
theorem s_l15Recover.f_eq (k : Nat) (d_Plate : List ByteArray) (d_Held : List ByteArray) (d_Bad : List Bool) : s_l15Recover.f k d_Plate d_Held d_Bad =
 (s_l7Read.f k d_Plate d_Held d_Bad (0 : Int)).bind fun d0 =>
 (s_CheckFrame.f k d0.fst (4 : Int) (0 : Int) (0 : Int)).bind fun d1 =>
 cn (!d0.snd)
 (some (([], (-1 : Int))))
 (cn (!d1.snd.snd)
  (some (([], (-1 : Int))))
  ((s_l15Half.f k d1.fst.snd.snd.fst).bind fun d2 =>
   s_l15Recover.l0 k k d2 ((0 : Int)) d_Plate d_Held d_Bad d1.fst.fst d1.fst.snd.fst d1.fst.snd.snd.fst d1.fst.snd.snd.snd ([]))) := (opq_eq _).trans (by kernel_rfl)
abbrev s_RecoverFrom.s : Sig := ⟨29, [], [.val], [.agg [.row 9 .str, .row 9 .str, .row 4 .bool]], [.one (.own 3 (.int .i64)), .one (.int .i64), .one .bool], [], []⟩
noncomputable def s_RecoverFrom.C (k : Nat) : List (Nat × Ctr) := [(71, s_GoodDisk.s.ctr (fun x => s_GoodDisk.f k x.1 x.2.1 x.2.2)), (72, s_l15Recover.s.ctr (fun x => s_l15Recover.f k x.1 x.2.1 x.2.2))]
noncomputable def s_RecoverFrom.f (k : Nat) (d_Plate : List ByteArray) (d_Held : List ByteArray) (d_Bad : List Bool) : Option (List Int × Int × Bool) := opq (s_RecoverFrom.s.run Try.prog (s_RecoverFrom.C k) k (d_Plate, d_Held, d_Bad))
theorem s_RecoverFrom.ok (k : Nat) : CtrOk Try.prog 29 (s_RecoverFrom.s.ctr (fun x => s_RecoverFrom.f k x.1 x.2.1 x.2.2)) := sig_ok s_RecoverFrom.s (.cons (s_GoodDisk.ok k) (.cons (s_l15Recover.ok k) .nil)) (by kernel_rfl) fun _ => opq_eq _
theorem s_RecoverFrom.f_eq (k : Nat) (d_Plate : List ByteArray) (d_Held : List ByteArray) (d_Bad : List Bool) : s_RecoverFrom.f k d_Plate d_Held d_Bad =
 (s_GoodDisk.f k d_Plate d_Held d_Bad).bind fun d0 =>
 cn (!d0)
 (some (([], (0 : Int), false)))
 (cn (!decide ((↑d_Plate.length : Int) = (5 : Int)))
  (some (([], (0 : Int), false)))
  ((s_l15Recover.f k d_Plate d_Held d_Bad).bind fun d1 =>
   cn (decide (d1.snd < (0 : Int)))
   (some (([], (0 : Int), false)))
   (some ((d1.fst, d1.snd, true))))) := (opq_eq _).trans (by kernel_rfl)
abbrev i_within.s : Sig := ⟨83, [], [.val, .val, .val], [.one (.int .i64), .one (.int .i64), .one (.int .i64)], [.one .bool], [], []⟩
noncomputable def i_within.C (k : Nat) : List (Nat × Ctr) := []
noncomputable def i_within.f (k : Nat) (n : Int) (low : Int) (high : Int) : Option Bool := opq (i_within.s.run Try.prog (i_within.C k) k (n, low, high))
theorem i_within.ok (k : Nat) : CtrOk Try.prog 83 (i_within.s.ctr (fun x => i_within.f k x.1 x.2.1 x.2.2)) := sig_ok i_within.s .nil (by kernel_rfl) fun _ => opq_eq _
theorem i_within.f_eq (k : Nat) (n : Int) (low : Int) (high : Int) : i_within.f k n low high =
 cn (decide (low ≤ n))
 (some (decide (n ≤ high)))
 (some false) := (opq_eq _).trans (by kernel_rfl)
abbrev i_GoodDisk.s : Sig := ⟨74, [], [.val], [.agg [.row 9 .str, .row 9 .str, .row 4 .bool]], [.one .bool], [], [(0, [(1,false),(27,true),(28,false),(29,false)])]⟩
noncomputable def i_GoodDisk.C (k : Nat) : List (Nat × Ctr) := [(83, i_within.s.ctr (fun x => i_within.f k x.1 x.2.1 x.2.2))]
noncomputable def i_GoodDisk.f (k : Nat) (d_Plate : List ByteArray) (d_Held : List ByteArray) (d_Bad : List Bool) : Option Bool := opq (i_GoodDisk.s.run Try.prog (i_GoodDisk.C k) k (d_Plate, d_Held, d_Bad))
theorem i_GoodDisk.ok (k : Nat) : CtrOk Try.prog 74 (i_GoodDisk.s.ctr (fun x => i_GoodDisk.f k x.1 x.2.1 x.2.2)) := sig_ok i_GoodDisk.s (.cons (i_within.ok k) .nil) (by kernel_rfl) fun _ => opq_eq _
noncomputable def i_GoodDisk.l0 (k : Nat) (m : Nat) (t27 : List ByteArray) (t28 : Int) (t29 : Int) (h1 : List ByteArray) (h1_ : List ByteArray) (h1__ : List Bool) : Option Bool := i_GoodDisk.s.head Try.prog (i_GoodDisk.C k) k 1 0 [] m [(1, AV.ptr 1 0 0), (27, AV.row 9 Kind.str t27), (28, AV.int IntKind.i64 t28), (29, AV.int IntKind.i64 t29)] [Root.dead, Root.box 38 [AV.row 9 Kind.str h1, AV.row 9 Kind.str h1_, AV.row 4 Kind.bool h1__]]
theorem i_GoodDisk.l0_z (k : Nat) (t27 : List ByteArray) (t28 : Int) (t29 : Int) (h1 : List ByteArray) (h1_ : List ByteArray) (h1__ : List Bool) : i_GoodDisk.l0 k 0 t27 t28 t29 h1 h1_ h1__ = none := by kernel_rfl
theorem i_GoodDisk.l0_s (k : Nat) (m : Nat) (t27 : List ByteArray) (t28 : Int) (t29 : Int) (h1 : List ByteArray) (h1_ : List ByteArray) (h1__ : List Bool) : i_GoodDisk.l0 k (m + 1) t27 t28 t29 h1 h1_ h1__ =
 cn (decide (t29 < t28))
 (gd (inb t29 t27.length)
  (cn (decide ((28 : Int) < (↑(getAt ByteArray.empty t27 t29.toNat).size : Int)))
   (some false)
   (gd (inb t29 h1_.length)
    (cn (decide ((28 : Int) < (↑(getAt ByteArray.empty h1_ t29.toNat).size : Int)))
     (some false)
     (gd (inb t29 h1__.length)
      (cn (getAt false h1__ t29.toNat)
       (gd (inb t29 h1_.length)
        (cn (!decide ((getAt ByteArray.empty h1_ t29.toNat).toList = ByteArray.empty.toList))
         (some false)
         (i_GoodDisk.l0 k m t27 t28 (IntKind.i64.wrap (t29 + (1 : Int))) h1 h1_ h1__)))
       (i_GoodDisk.l0 k m t27 t28 (IntKind.i64.wrap (t29 + (1 : Int))) h1 h1_ h1__)))))))
 (some true) := by kernel_rfl
theorem i_GoodDisk.f_eq (k : Nat) (d_Plate : List ByteArray) (d_Held : List ByteArray) (d_Bad : List Bool) : i_GoodDisk.f k d_Plate d_Held d_Bad =
 (i_within.f k (↑d_Plate.length : Int) (1 : Int) (24 : Int)).bind fun d0 =>
 cn (!d0)
 (some false)
 (cn (!decide ((↑d_Held.length : Int) = (↑d_Plate.length : Int)))
  (some false)
  (cn (!decide ((↑d_Bad.length : Int) = (↑d_Plate.length : Int)))
   (some false)
   (i_GoodDisk.l0 k k d_Plate ((↑d_Plate.length : Int)) ((0 : Int)) d_Plate d_Held d_Bad))) := (opq_eq _).trans (by kernel_rfl)
abbrev i_Disk_has.s : Sig := ⟨107, [], [.val, .val], [.agg [.row 9 .str, .row 9 .str, .row 4 .bool], .one (.int .i64)], [.one .bool], [], []⟩
noncomputable def i_Disk_has.C (k : Nat) : List (Nat × Ctr) := [(83, i_within.s.ctr (fun x => i_within.f k x.1 x.2.1 x.2.2))]
noncomputable def i_Disk_has.f (k : Nat) (d_Plate : List ByteArray) (d_Held : List ByteArray) (d_Bad : List Bool) (at_ : Int) : Option Bool := opq (i_Disk_has.s.run Try.prog (i_Disk_has.C k) k ((d_Plate, d_Held, d_Bad), at_))
theorem i_Disk_has.ok (k : Nat) : CtrOk Try.prog 107 (i_Disk_has.s.ctr (fun x => i_Disk_has.f k x.1.1 x.1.2.1 x.1.2.2 x.2)) := sig_ok i_Disk_has.s (.cons (i_within.ok k) .nil) (by kernel_rfl) fun _ => opq_eq _
theorem i_Disk_has.f_eq (k : Nat) (d_Plate : List ByteArray) (d_Held : List ByteArray) (d_Bad : List Bool) (at_ : Int) : i_Disk_has.f k d_Plate d_Held d_Bad at_ =
 (i_within.f k at_ (0 : Int) (IntKind.i64.wrap ((↑d_Plate.length : Int) - (1 : Int)))).bind fun d0 =>
 some d0 := (opq_eq _).trans (by kernel_rfl)
abbrev i_ReadSector.s : Sig := ⟨75, [], [.val, .val], [.agg [.row 9 .str, .row 9 .str, .row 4 .bool], .one (.int .i64)], [.one .str, .one .bool], [], []⟩
noncomputable def i_ReadSector.C (k : Nat) : List (Nat × Ctr) := [(74, i_GoodDisk.s.ctr (fun x => i_GoodDisk.f k x.1 x.2.1 x.2.2)), (107, i_Disk_has.s.ctr (fun x => i_Disk_has.f k x.1.1 x.1.2.1 x.1.2.2 x.2))]
noncomputable def i_ReadSector.f (k : Nat) (d_Plate : List ByteArray) (d_Held : List ByteArray) (d_Bad : List Bool) (at_ : Int) : Option (ByteArray × Bool) := opq (i_ReadSector.s.run Try.prog (i_ReadSector.C k) k ((d_Plate, d_Held, d_Bad), at_))
theorem i_ReadSector.ok (k : Nat) : CtrOk Try.prog 75 (i_ReadSector.s.ctr (fun x => i_ReadSector.f k x.1.1 x.1.2.1 x.1.2.2 x.2)) := sig_ok i_ReadSector.s (.cons (i_GoodDisk.ok k) (.cons (i_Disk_has.ok k) .nil)) (by kernel_rfl) fun _ => opq_eq _
theorem i_ReadSector.f_eq (k : Nat) (d_Plate : List ByteArray) (d_Held : List ByteArray) (d_Bad : List Bool) (at_ : Int) : i_ReadSector.f k d_Plate d_Held d_Bad at_ =
 (i_GoodDisk.f k d_Plate d_Held d_Bad).bind fun d0 =>
 cn (!d0)
 (some ((ByteArray.empty, false)))
 ((i_Disk_has.f k d_Plate d_Held d_Bad at_).bind fun d1 =>
  cn (!d1)
  (some ((ByteArray.empty, false)))
  (gd (inb at_ d_Bad.length)
   (cn (getAt false d_Bad at_.toNat)
    (some ((ByteArray.empty, false)))
    (gd (inb at_ d_Held.length)
     (cn (!decide ((getAt ByteArray.empty d_Held at_.toNat).toList = ByteArray.empty.toList))
      (gd (inb at_ d_Held.length)
       (some ((getAt ByteArray.empty d_Held at_.toNat, true))))
      (gd (inb at_ d_Plate.length)
       (some ((getAt ByteArray.empty d_Plate at_.toNat, true))))))))) := (opq_eq _).trans (by kernel_rfl)
abbrev i_turned.s : Sig := ⟨136, [], [.val], [.one (.int .i64)], [.one (.int .i64)], [], []⟩
noncomputable def i_turned.C (k : Nat) : List (Nat × Ctr) := []
noncomputable def i_turned.f (k : Nat) (sum : Int) : Option Int := opq (i_turned.s.run Try.prog (i_turned.C k) k sum)
theorem i_turned.ok (k : Nat) : CtrOk Try.prog 136 (i_turned.s.ctr (fun x => i_turned.f k x)) := sig_ok i_turned.s .nil (by kernel_rfl) fun _ => opq_eq _
theorem i_turned.f_eq (k : Nat) (sum : Int) : i_turned.f k sum =
 some (IntKind.i64.wrap (↑(BitVec.ofInt (64 : Nat) sum ^^^ BitVec.ofInt (64 : Nat) (4294967295 : Int)).toNat : Int)) := (opq_eq _).trans (by kernel_rfl)
abbrev i_shifted.s : Sig := ⟨137, [], [.val], [.one (.int .i64)], [.one (.int .i64)], [], [(0, [(0,false),(4,false)])]⟩
noncomputable def i_shifted.C (k : Nat) : List (Nat × Ctr) := []
noncomputable def i_shifted.f (k : Nat) (sum : Int) : Option Int := opq (i_shifted.s.run Try.prog (i_shifted.C k) k sum)
theorem i_shifted.ok (k : Nat) : CtrOk Try.prog 137 (i_shifted.s.ctr (fun x => i_shifted.f k x)) := sig_ok i_shifted.s .nil (by kernel_rfl) fun _ => opq_eq _
noncomputable def i_shifted.l0 (k : Nat) (m : Nat) (sum0 : Int) (t4 : Int) : Option Int := i_shifted.s.head Try.prog (i_shifted.C k) k 1 0 [] m [(0, AV.int IntKind.i64 sum0), (4, AV.int IntKind.i64 t4)] [Root.dead]
theorem i_shifted.l0_z (k : Nat) (sum0 : Int) (t4 : Int) : i_shifted.l0 k 0 sum0 t4 = none := by kernel_rfl
theorem i_shifted.l0_s (k : Nat) (m : Nat) (sum0 : Int) (t4 : Int) : i_shifted.l0 k (m + 1) sum0 t4 =
 cn (decide (t4 < (8 : Int)))
 (cn (decide (IntKind.i64.wrap (↑(BitVec.ofInt (64 : Nat) sum0 &&& BitVec.ofInt (64 : Nat) (1 : Int)).toNat : Int) = (1 : Int)))
  (i_shifted.l0 k m (IntKind.i64.wrap (↑(BitVec.ofInt (64 : Nat) (sum0.fdiv ((2 : Int) ^ (1 : Nat))) ^^^ BitVec.ofInt (64 : Nat) (2197175160 : Int)).toNat : Int)) (IntKind.i64.wrap (t4 + (1 : Int))))
  (i_shifted.l0 k m (sum0.fdiv ((2 : Int) ^ (1 : Nat))) (IntKind.i64.wrap (t4 + (1 : Int)))))
 (some sum0) := by kernel_rfl
theorem i_shifted.f_eq (k : Nat) (sum : Int) : i_shifted.f k sum =
 i_shifted.l0 k k sum ((0 : Int)) := (opq_eq _).trans (by kernel_rfl)
abbrev i_sumOn.s : Sig := ⟨128, [], [.val, .val], [.one (.int .i64), .one .str], [.one (.int .i64)], [], [(0, [(0,false),(1,false),(9,false),(10,false)])]⟩
noncomputable def i_sumOn.C (k : Nat) : List (Nat × Ctr) := [(136, i_turned.s.ctr (fun x => i_turned.f k x)), (137, i_shifted.s.ctr (fun x => i_shifted.f k x))]
noncomputable def i_sumOn.f (k : Nat) (sum : Int) (s : ByteArray) : Option Int := opq (i_sumOn.s.run Try.prog (i_sumOn.C k) k (sum, s))
theorem i_sumOn.ok (k : Nat) : CtrOk Try.prog 128 (i_sumOn.s.ctr (fun x => i_sumOn.f k x.1 x.2)) := sig_ok i_sumOn.s (.cons (i_turned.ok k) (.cons (i_shifted.ok k) .nil)) (by kernel_rfl) fun _ => opq_eq _
noncomputable def i_sumOn.l0 (k : Nat) (m : Nat) (sum0 : Int) (s1 : ByteArray) (t9 : Int) (t10 : Int) : Option Int := i_sumOn.s.head Try.prog (i_sumOn.C k) k 1 0 [] m [(0, AV.int IntKind.i64 sum0), (1, AV.str s1), (9, AV.int IntKind.i64 t9), (10, AV.int IntKind.i64 t10)] [Root.dead]
theorem i_sumOn.l0_z (k : Nat) (sum0 : Int) (s1 : ByteArray) (t9 : Int) (t10 : Int) : i_sumOn.l0 k 0 sum0 s1 t9 t10 = none := by kernel_rfl
theorem i_sumOn.l0_s (k : Nat) (m : Nat) (sum0 : Int) (s1 : ByteArray) (t9 : Int) (t10 : Int) : i_sumOn.l0 k (m + 1) sum0 s1 t9 t10 =
 cn (decide (t10 < t9))
 (gd (inb t10 s1.size)
  ((i_shifted.f k (IntKind.i64.wrap (↑(BitVec.ofInt (64 : Nat) sum0 ^^^ BitVec.ofInt (64 : Nat) (IntKind.i64.wrap (↑(s1.data.getD t10.toNat (0 : UInt8)).toNat : Int))).toNat : Int))).bind fun d2 =>
   i_sumOn.l0 k m d2 s1 t9 (IntKind.i64.wrap (t10 + (1 : Int)))))
 ((i_turned.f k sum0).bind fun d1 =>
  some d1) := by kernel_rfl
theorem i_sumOn.f_eq (k : Nat) (sum : Int) (s : ByteArray) : i_sumOn.f k sum s =
 (i_turned.f k sum).bind fun d0 =>
 i_sumOn.l0 k k d0 s ((↑s.size : Int)) ((0 : Int)) := (opq_eq _).trans (by kernel_rfl)
abbrev i_GoodFrame.s : Sig := ⟨130, [], [.val], [.agg [.int .i64, .int .i64, .int .i64, .str]], [.one .bool], [], []⟩
noncomputable def i_GoodFrame.C (k : Nat) : List (Nat × Ctr) := [(83, i_within.s.ctr (fun x => i_within.f k x.1 x.2.1 x.2.2))]
noncomputable def i_GoodFrame.f (k : Nat) (f_Kind : Int) (f_At : Int) (f_Epoch : Int) (f_Body : ByteArray) : Option Bool := opq (i_GoodFrame.s.run Try.prog (i_GoodFrame.C k) k (f_Kind, f_At, f_Epoch, f_Body))
theorem i_GoodFrame.ok (k : Nat) : CtrOk Try.prog 130 (i_GoodFrame.s.ctr (fun x => i_GoodFrame.f k x.1 x.2.1 x.2.2.1 x.2.2.2)) := sig_ok i_GoodFrame.s (.cons (i_within.ok k) .nil) (by kernel_rfl) fun _ => opq_eq _
theorem i_GoodFrame.f_eq (k : Nat) (f_Kind : Int) (f_At : Int) (f_Epoch : Int) (f_Body : ByteArray) : i_GoodFrame.f k f_Kind f_At f_Epoch f_Body =
 (i_within.f k f_Kind (1 : Int) (255 : Int)).bind fun d0 =>
 cn d0
 ((i_within.f k f_At (0 : Int) (60000 : Int)).bind fun d1 =>
  cn d1
  ((i_within.f k f_Epoch (0 : Int) (60000 : Int)).bind fun d2 =>
   cn d2
   (some (decide ((↑f_Body.size : Int) ≤ (16 : Int))))
   (some false))
  (some false))
 (some false) := (opq_eq _).trans (by kernel_rfl)
abbrev i_frameBytes.s : Sig := ⟨104, [], [.val], [.agg [.int .i64, .int .i64, .int .i64, .str]], [.one .str], [], []⟩
noncomputable def i_frameBytes.C (k : Nat) : List (Nat × Ctr) := [(128, i_sumOn.s.ctr (fun x => i_sumOn.f k x.1 x.2))]
noncomputable def i_frameBytes.f (k : Nat) (f_Kind : Int) (f_At : Int) (f_Epoch : Int) (f_Body : ByteArray) : Option ByteArray := opq (i_frameBytes.s.run Try.prog (i_frameBytes.C k) k (f_Kind, f_At, f_Epoch, f_Body))
theorem i_frameBytes.ok (k : Nat) : CtrOk Try.prog 104 (i_frameBytes.s.ctr (fun x => i_frameBytes.f k x.1 x.2.1 x.2.2.1 x.2.2.2)) := sig_ok i_frameBytes.s (.cons (i_sumOn.ok k) .nil) (by kernel_rfl) fun _ => opq_eq _
theorem i_frameBytes.f_eq (k : Nat) (f_Kind : Int) (f_At : Int) (f_Epoch : Int) (f_Body : ByteArray) : i_frameBytes.f k f_Kind f_At f_Epoch f_Body =
 gd (appOk ([IntKind.u8.wrap f_Kind, IntKind.u8.wrap (f_At.fdiv ((2 : Int) ^ (8 : Nat))), IntKind.u8.wrap f_At, IntKind.u8.wrap (f_Epoch.fdiv ((2 : Int) ^ (8 : Nat))), IntKind.u8.wrap f_Epoch, IntKind.u8.wrap (↑f_Body.size : Int)].length + (bytesL f_Body).length) (Try.prog.bytesOf (5 : Nat)))
 (gd (decide ((0 : Int) ≤ IntKind.i64.wrap (IntKind.i64.wrap ((18 : Int) - (↑f_Body.size : Int)))) && appOk (([IntKind.u8.wrap f_Kind, IntKind.u8.wrap (f_At.fdiv ((2 : Int) ^ (8 : Nat))), IntKind.u8.wrap f_At, IntKind.u8.wrap (f_Epoch.fdiv ((2 : Int) ^ (8 : Nat))), IntKind.u8.wrap f_Epoch, IntKind.u8.wrap (↑f_Body.size : Int)] ++ bytesL f_Body).length + (List.replicate (IntKind.i64.wrap (IntKind.i64.wrap ((18 : Int) - (↑f_Body.size : Int)))).toNat (0 : Int)).length) (Try.prog.bytesOf (5 : Nat)))
  ((i_sumOn.f k (0 : Int) (strOfNums ([IntKind.u8.wrap f_Kind, IntKind.u8.wrap (f_At.fdiv ((2 : Int) ^ (8 : Nat))), IntKind.u8.wrap f_At, IntKind.u8.wrap (f_Epoch.fdiv ((2 : Int) ^ (8 : Nat))), IntKind.u8.wrap f_Epoch, IntKind.u8.wrap (↑f_Body.size : Int)] ++ bytesL f_Body ++ List.replicate (IntKind.i64.wrap (IntKind.i64.wrap ((18 : Int) - (↑f_Body.size : Int)))).toNat (0 : Int)))).bind fun d0 =>
   gd (appOk (([IntKind.u8.wrap f_Kind, IntKind.u8.wrap (f_At.fdiv ((2 : Int) ^ (8 : Nat))), IntKind.u8.wrap f_At, IntKind.u8.wrap (f_Epoch.fdiv ((2 : Int) ^ (8 : Nat))), IntKind.u8.wrap f_Epoch, IntKind.u8.wrap (↑f_Body.size : Int)] ++ bytesL f_Body ++ List.replicate (IntKind.i64.wrap (IntKind.i64.wrap ((18 : Int) - (↑f_Body.size : Int)))).toNat (0 : Int)).length + [IntKind.u8.wrap d0, IntKind.u8.wrap (Int.fdiv d0 ((2 : Int) ^ (8 : Nat))), IntKind.u8.wrap (Int.fdiv d0 ((2 : Int) ^ (16 : Nat))), IntKind.u8.wrap (Int.fdiv d0 ((2 : Int) ^ (24 : Nat)))].length) (Try.prog.bytesOf (5 : Nat)))
   (some (strOfNums ([IntKind.u8.wrap f_Kind, IntKind.u8.wrap (f_At.fdiv ((2 : Int) ^ (8 : Nat))), IntKind.u8.wrap f_At, IntKind.u8.wrap (f_Epoch.fdiv ((2 : Int) ^ (8 : Nat))), IntKind.u8.wrap f_Epoch, IntKind.u8.wrap (↑f_Body.size : Int)] ++ bytesL f_Body ++ List.replicate (IntKind.i64.wrap (IntKind.i64.wrap ((18 : Int) - (↑f_Body.size : Int)))).toNat (0 : Int) ++ [IntKind.u8.wrap d0, IntKind.u8.wrap (Int.fdiv d0 ((2 : Int) ^ (8 : Nat))), IntKind.u8.wrap (Int.fdiv d0 ((2 : Int) ^ (16 : Nat))), IntKind.u8.wrap (Int.fdiv d0 ((2 : Int) ^ (24 : Nat)))]))))) := (opq_eq _).trans (by kernel_rfl)
abbrev i_ReadFrame.s : Sig := ⟨108, [], [.val], [.one .str], [.agg [.int .i64, .int .i64, .int .i64, .str], .one (.int .i64), .one .bool], [], []⟩
noncomputable def i_ReadFrame.C (k : Nat) : List (Nat × Ctr) := [(104, i_frameBytes.s.ctr (fun x => i_frameBytes.f k x.1 x.2.1 x.2.2.1 x.2.2.2)), (128, i_sumOn.s.ctr (fun x => i_sumOn.f k x.1 x.2)), (130, i_GoodFrame.s.ctr (fun x => i_GoodFrame.f k x.1 x.2.1 x.2.2.1 x.2.2.2))]
noncomputable def i_ReadFrame.f (k : Nat) (s : ByteArray) : Option ((Int × Int × Int × ByteArray) × Int × Bool) := opq (i_ReadFrame.s.run Try.prog (i_ReadFrame.C k) k s)
theorem i_ReadFrame.ok (k : Nat) : CtrOk Try.prog 108 (i_ReadFrame.s.ctr (fun x => i_ReadFrame.f k x)) := sig_ok i_ReadFrame.s (.cons (i_frameBytes.ok k) (.cons (i_sumOn.ok k) (.cons (i_GoodFrame.ok k) .nil))) (by kernel_rfl) fun _ => opq_eq _
theorem i_ReadFrame.f_eq (k : Nat) (s : ByteArray) : i_ReadFrame.f k s =
 cn (!decide ((↑s.size : Int) = (28 : Int)))
 (some ((((0 : Int), (0 : Int), (0 : Int), ByteArray.empty), (1 : Int), false)))
 (gd (true && decide ((24 : Int) ≤ (↑s.size : Int)))
  ((i_sumOn.f k (0 : Int) (s.extract (0 : Nat) (24 : Nat))).bind fun d0 =>
   gd (true && decide ((24 : Int) ≤ (↑s.size : Int)))
   (cn (!decide ((s.extract (24 : Nat) s.size).toList = (strOfNums [IntKind.u8.wrap d0, IntKind.u8.wrap (Int.fdiv d0 ((2 : Int) ^ (8 : Nat))), IntKind.u8.wrap (Int.fdiv d0 ((2 : Int) ^ (16 : Nat))), IntKind.u8.wrap (Int.fdiv d0 ((2 : Int) ^ (24 : Nat)))]).toList))
    (some ((((0 : Int), (0 : Int), (0 : Int), ByteArray.empty), (2 : Int), false)))
    (gd (inb (0 : Int) s.size)
     (gd (inb (1 : Int) s.size)
      (gd (inb (2 : Int) s.size)
       (gd (inb (3 : Int) s.size)
        (gd (inb (4 : Int) s.size)
         (gd (inb (5 : Int) s.size)
          (gd (true && (decide ((6 : Int) ≤ IntKind.i64.wrap ((6 : Int) + cn (decide (IntKind.i64.wrap (↑(s.data.getD (5 : Nat) (0 : UInt8)).toNat : Int) < (16 : Int))) (IntKind.i64.wrap (↑(s.data.getD (5 : Nat) (0 : UInt8)).toNat : Int)) (16 : Int))) && decide (IntKind.i64.wrap ((6 : Int) + cn (decide (IntKind.i64.wrap (↑(s.data.getD (5 : Nat) (0 : UInt8)).toNat : Int) < (16 : Int))) (IntKind.i64.wrap (↑(s.data.getD (5 : Nat) (0 : UInt8)).toNat : Int)) (16 : Int)) ≤ (↑s.size : Int))))
           ((i_GoodFrame.f k (IntKind.i64.wrap (↑(s.data.getD (0 : Nat) (0 : UInt8)).toNat : Int)) (IntKind.i64.wrap (↑(BitVec.ofInt (64 : Nat) (IntKind.i64.wrap (IntKind.i64.wrap (↑(s.data.getD (1 : Nat) (0 : UInt8)).toNat : Int) * (2 : Int) ^ (8 : Nat))) ||| BitVec.ofInt (64 : Nat) (IntKind.i64.wrap (↑(s.data.getD (2 : Nat) (0 : UInt8)).toNat : Int))).toNat : Int)) (IntKind.i64.wrap (↑(BitVec.ofInt (64 : Nat) (IntKind.i64.wrap (IntKind.i64.wrap (↑(s.data.getD (3 : Nat) (0 : UInt8)).toNat : Int) * (2 : Int) ^ (8 : Nat))) ||| BitVec.ofInt (64 : Nat) (IntKind.i64.wrap (↑(s.data.getD (4 : Nat) (0 : UInt8)).toNat : Int))).toNat : Int)) (s.extract (6 : Nat) (IntKind.i64.wrap ((6 : Int) + cn (decide (IntKind.i64.wrap (↑(s.data.getD (5 : Nat) (0 : UInt8)).toNat : Int) < (16 : Int))) (IntKind.i64.wrap (↑(s.data.getD (5 : Nat) (0 : UInt8)).toNat : Int)) (16 : Int))).toNat)).bind fun d1 =>
            cn (!d1)
            (some ((((0 : Int), (0 : Int), (0 : Int), ByteArray.empty), (3 : Int), false)))
            ((i_frameBytes.f k (IntKind.i64.wrap (↑(s.data.getD (0 : Nat) (0 : UInt8)).toNat : Int)) (IntKind.i64.wrap (↑(BitVec.ofInt (64 : Nat) (IntKind.i64.wrap (IntKind.i64.wrap (↑(s.data.getD (1 : Nat) (0 : UInt8)).toNat : Int) * (2 : Int) ^ (8 : Nat))) ||| BitVec.ofInt (64 : Nat) (IntKind.i64.wrap (↑(s.data.getD (2 : Nat) (0 : UInt8)).toNat : Int))).toNat : Int)) (IntKind.i64.wrap (↑(BitVec.ofInt (64 : Nat) (IntKind.i64.wrap (IntKind.i64.wrap (↑(s.data.getD (3 : Nat) (0 : UInt8)).toNat : Int) * (2 : Int) ^ (8 : Nat))) ||| BitVec.ofInt (64 : Nat) (IntKind.i64.wrap (↑(s.data.getD (4 : Nat) (0 : UInt8)).toNat : Int))).toNat : Int)) (s.extract (6 : Nat) (IntKind.i64.wrap ((6 : Int) + cn (decide (IntKind.i64.wrap (↑(s.data.getD (5 : Nat) (0 : UInt8)).toNat : Int) < (16 : Int))) (IntKind.i64.wrap (↑(s.data.getD (5 : Nat) (0 : UInt8)).toNat : Int)) (16 : Int))).toNat)).bind fun d2 =>
             cn (!decide (ByteArray.toList d2 = s.toList))
             (some ((((0 : Int), (0 : Int), (0 : Int), ByteArray.empty), (3 : Int), false)))
             (some (((IntKind.i64.wrap (↑(s.data.getD (0 : Nat) (0 : UInt8)).toNat : Int), IntKind.i64.wrap (↑(BitVec.ofInt (64 : Nat) (IntKind.i64.wrap (IntKind.i64.wrap (↑(s.data.getD (1 : Nat) (0 : UInt8)).toNat : Int) * (2 : Int) ^ (8 : Nat))) ||| BitVec.ofInt (64 : Nat) (IntKind.i64.wrap (↑(s.data.getD (2 : Nat) (0 : UInt8)).toNat : Int))).toNat : Int), IntKind.i64.wrap (↑(BitVec.ofInt (64 : Nat) (IntKind.i64.wrap (IntKind.i64.wrap (↑(s.data.getD (3 : Nat) (0 : UInt8)).toNat : Int) * (2 : Int) ^ (8 : Nat))) ||| BitVec.ofInt (64 : Nat) (IntKind.i64.wrap (↑(s.data.getD (4 : Nat) (0 : UInt8)).toNat : Int))).toNat : Int), s.extract (6 : Nat) (IntKind.i64.wrap ((6 : Int) + cn (decide (IntKind.i64.wrap (↑(s.data.getD (5 : Nat) (0 : UInt8)).toNat : Int) < (16 : Int))) (IntKind.i64.wrap (↑(s.data.getD (5 : Nat) (0 : UInt8)).toNat : Int)) (16 : Int))).toNat), (0 : Int), true))))))))))))))) := (opq_eq _).trans (by kernel_rfl)
abbrev i_CheckFrame.s : Sig := ⟨76, [], [.val, .val, .val, .val], [.one .str, .one (.int .i64), .one (.int .i64), .one (.int .i64)], [.agg [.int .i64, .int .i64, .int .i64, .str], .one (.int .i64), .one .bool], [], []⟩
noncomputable def i_CheckFrame.C (k : Nat) : List (Nat × Ctr) := [(108, i_ReadFrame.s.ctr (fun x => i_ReadFrame.f k x))]
noncomputable def i_CheckFrame.f (k : Nat) (s : ByteArray) (kind : Int) (at_ : Int) (least : Int) : Option ((Int × Int × Int × ByteArray) × Int × Bool) := opq (i_CheckFrame.s.run Try.prog (i_CheckFrame.C k) k (s, kind, at_, least))
theorem i_CheckFrame.ok (k : Nat) : CtrOk Try.prog 76 (i_CheckFrame.s.ctr (fun x => i_CheckFrame.f k x.1 x.2.1 x.2.2.1 x.2.2.2)) := sig_ok i_CheckFrame.s (.cons (i_ReadFrame.ok k) .nil) (by kernel_rfl) fun _ => opq_eq _
theorem i_CheckFrame.f_eq (k : Nat) (s : ByteArray) (kind : Int) (at_ : Int) (least : Int) : i_CheckFrame.f k s kind at_ least =
 (i_ReadFrame.f k s).bind fun d0 =>
 cn (!d0.snd.snd)
 (cn (!decide (d0.snd.fst = (0 : Int)))
  (some ((((0 : Int), (0 : Int), (0 : Int), ByteArray.empty), d0.snd.fst, false)))
  (some (((d0.fst.fst, d0.fst.snd.fst, d0.fst.snd.snd.fst, d0.fst.snd.snd.snd), (0 : Int), true))))
 (cn (!decide (d0.fst.fst = kind))
  (some ((((0 : Int), (0 : Int), (0 : Int), ByteArray.empty), (3 : Int), false)))
  (cn (!decide (d0.fst.snd.fst = at_))
   (some ((((0 : Int), (0 : Int), (0 : Int), ByteArray.empty), (4 : Int), false)))
   (cn (decide (d0.fst.snd.snd.fst < least))
    (some ((((0 : Int), (0 : Int), (0 : Int), ByteArray.empty), (5 : Int), false)))
    (cn (!decide (d0.snd.fst = (0 : Int)))
     (some ((((0 : Int), (0 : Int), (0 : Int), ByteArray.empty), d0.snd.fst, false)))
     (some (((d0.fst.fst, d0.fst.snd.fst, d0.fst.snd.snd.fst, d0.fst.snd.snd.snd), (0 : Int), true))))))) := (opq_eq _).trans (by kernel_rfl)
abbrev i_halfOf.s : Sig := ⟨77, [], [.val], [.one (.int .i64)], [.one (.int .i64)], [], []⟩
noncomputable def i_halfOf.C (k : Nat) : List (Nat × Ctr) := []
noncomputable def i_halfOf.f (k : Nat) (epoch : Int) : Option Int := opq (i_halfOf.s.run Try.prog (i_halfOf.C k) k epoch)
theorem i_halfOf.ok (k : Nat) : CtrOk Try.prog 77 (i_halfOf.s.ctr (fun x => i_halfOf.f k x)) := sig_ok i_halfOf.s .nil (by kernel_rfl) fun _ => opq_eq _
theorem i_halfOf.f_eq (k : Nat) (epoch : Int) : i_halfOf.f k epoch =
 some (IntKind.i64.wrap ((1 : Int) + IntKind.i64.wrap ((2 : Int) * epoch.tmod (2 : Int)))) := (opq_eq _).trans (by kernel_rfl)
abbrev i_StateFrom.s : Sig := ⟨21, [], [.val], [.one (.row 9 .str)], [.one (.own 3 (.int .i64)), .one .bool], [], []⟩
noncomputable def i_StateFrom.f (k : Nat) (l : List ByteArray) : Option (List Int × Bool) := sfF l
theorem i_StateFrom.ok (k : Nat) : CtrOk Try.prog 21 (i_StateFrom.s.ctr fun x => i_StateFrom.f k x) := sf_ctr
abbrev i_RecoverFrom.s : Sig := ⟨31, [], [.val], [.agg [.row 9 .str, .row 9 .str, .row 4 .bool]], [.one (.own 3 (.int .i64)), .one (.int .i64), .one .bool], [], [(0, [(1,false),(7,false),(10,true),(42,false)])]⟩
noncomputable def i_RecoverFrom.C (k : Nat) : List (Nat × Ctr) := [(21, i_StateFrom.s.ctr (fun x => i_StateFrom.f k x)), (74, i_GoodDisk.s.ctr (fun x => i_GoodDisk.f k x.1 x.2.1 x.2.2)), (75, i_ReadSector.s.ctr (fun x => i_ReadSector.f k x.1.1 x.1.2.1 x.1.2.2 x.2)), (76, i_CheckFrame.s.ctr (fun x => i_CheckFrame.f k x.1 x.2.1 x.2.2.1 x.2.2.2)), (77, i_halfOf.s.ctr (fun x => i_halfOf.f k x))]
noncomputable def i_RecoverFrom.f (k : Nat) (d_Plate : List ByteArray) (d_Held : List ByteArray) (d_Bad : List Bool) : Option (List Int × Int × Bool) := opq (i_RecoverFrom.s.run Try.prog (i_RecoverFrom.C k) k (d_Plate, d_Held, d_Bad))
theorem i_RecoverFrom.ok (k : Nat) : CtrOk Try.prog 31 (i_RecoverFrom.s.ctr (fun x => i_RecoverFrom.f k x.1 x.2.1 x.2.2)) := sig_ok i_RecoverFrom.s (.cons (i_StateFrom.ok k) (.cons (i_GoodDisk.ok k) (.cons (i_ReadSector.ok k) (.cons (i_CheckFrame.ok k) (.cons (i_halfOf.ok k) .nil))))) (by kernel_rfl) fun _ => opq_eq _
noncomputable def i_RecoverFrom.l0 (k : Nat) (m : Nat) (t42 : Int) (h1 : List ByteArray) (h1_ : List ByteArray) (h1__ : List Bool) (h2 : Int) (h2_ : Int) (h2__ : Int) (h2___ : ByteArray) (h3 : List ByteArray) : Option (List Int × Int × Bool) := i_RecoverFrom.s.head Try.prog (i_RecoverFrom.C k) k 1 0 [] m [(1, AV.ptr 1 0 0), (7, AV.ptr 2 0 0), (10, AV.ref 3), (42, AV.int IntKind.i64 t42)] [Root.dead, Root.box 38 [AV.row 9 Kind.str h1, AV.row 9 Kind.str h1_, AV.row 4 Kind.bool h1__], Root.box 98 [AV.int IntKind.i64 h2, AV.int IntKind.i64 h2_, AV.int IntKind.i64 h2__, AV.str h2___], Root.rows 9 Kind.str h3]
theorem i_RecoverFrom.l0_z (k : Nat) (t42 : Int) (h1 : List ByteArray) (h1_ : List ByteArray) (h1__ : List Bool) (h2 : Int) (h2_ : Int) (h2__ : Int) (h2___ : ByteArray) (h3 : List ByteArray) : i_RecoverFrom.l0 k 0 t42 h1 h1_ h1__ h2 h2_ h2__ h2___ h3 = none := by kernel_rfl
theorem i_RecoverFrom.l0_s (k : Nat) (m : Nat) (t42 : Int) (h1 : List ByteArray) (h1_ : List ByteArray) (h1__ : List Bool) (h2 : Int) (h2_ : Int) (h2__ : Int) (h2___ : ByteArray) (h3 : List ByteArray) : i_RecoverFrom.l0 k (m + 1) t42 h1 h1_ h1__ h2 h2_ h2__ h2___ h3 =
 cn (decide (t42 < (2 : Int)))
 ((i_halfOf.f k h2__).bind fun d4 =>
  (i_ReadSector.f k h1 h1_ h1__ (IntKind.i64.wrap (d4 + t42))).bind fun d5 =>
  (i_CheckFrame.f k d5.fst (3 : Int) (IntKind.i64.wrap (d4 + t42)) h2__).bind fun d6 =>
  cn (!d6.snd.snd)
  (some (([], (0 : Int), false)))
  (cn (!decide (d6.fst.snd.snd.fst = h2__))
   (some (([], (0 : Int), false)))
   (gd (appOk (h3.length + [d6.fst.snd.snd.snd].length) (Try.prog.bytesOf (9 : Nat)))
    (i_RecoverFrom.l0 k m (IntKind.i64.wrap (t42 + (1 : Int))) h1 h1_ h1__ h2 h2_ h2__ h2___ (h3 ++ [d6.fst.snd.snd.snd])))))
 ((i_StateFrom.f k h3).bind fun d3 =>
  cn (!d3.snd)
  (some (([], (0 : Int), false)))
  (some ((d3.fst, h2__, true)))) := by kernel_rfl
theorem i_RecoverFrom.f_eq (k : Nat) (d_Plate : List ByteArray) (d_Held : List ByteArray) (d_Bad : List Bool) : i_RecoverFrom.f k d_Plate d_Held d_Bad =
 (i_GoodDisk.f k d_Plate d_Held d_Bad).bind fun d0 =>
 cn (!d0)
 (some (([], (0 : Int), false)))
 (cn (!decide ((↑d_Plate.length : Int) = (5 : Int)))
  (some (([], (0 : Int), false)))
  ((i_ReadSector.f k d_Plate d_Held d_Bad (0 : Int)).bind fun d1 =>
   (i_CheckFrame.f k d1.fst (4 : Int) (0 : Int) (0 : Int)).bind fun d2 =>
   cn (!d2.snd.snd)
   (some (([], (0 : Int), false)))
   (i_RecoverFrom.l0 k k ((0 : Int)) d_Plate d_Held d_Bad d2.fst.fst d2.fst.snd.fst d2.fst.snd.snd.fst d2.fst.snd.snd.snd ([])))) := (opq_eq _).trans (by kernel_rfl)
abbrev w_eqIntS.s : Sig := ⟨14, [], [.val, .val], [.one (.row 3 (.int .i64)), .one (.row 3 (.int .i64))], [.one .bool], [], [(0, [(0,false),(1,false),(5,false)])]⟩
noncomputable def w_eqIntS.C (k : Nat) : List (Nat × Ctr) := []
noncomputable def w_eqIntS.f (k : Nat) (a : List Int) (b : List Int) : Option Bool := opq (w_eqIntS.s.run Try.prog (w_eqIntS.C k) k (a, b))
theorem w_eqIntS.ok (k : Nat) : CtrOk Try.prog 14 (w_eqIntS.s.ctr (fun x => w_eqIntS.f k x.1 x.2)) := sig_ok w_eqIntS.s .nil (by kernel_rfl) fun _ => opq_eq _
noncomputable def w_eqIntS.l0 (k : Nat) (m : Nat) (a0 : List Int) (b1 : List Int) (i5 : Int) : Option Bool := w_eqIntS.s.head Try.prog (w_eqIntS.C k) k 1 0 [] m [(0, AV.row 3 (Kind.int IntKind.i64) a0), (1, AV.row 3 (Kind.int IntKind.i64) b1), (5, AV.int IntKind.i64 i5)] [Root.dead]
theorem w_eqIntS.l0_z (k : Nat) (a0 : List Int) (b1 : List Int) (i5 : Int) : w_eqIntS.l0 k 0 a0 b1 i5 = none := by kernel_rfl
theorem w_eqIntS.l0_s (k : Nat) (m : Nat) (a0 : List Int) (b1 : List Int) (i5 : Int) : w_eqIntS.l0 k (m + 1) a0 b1 i5 =
 cn (decide (i5 < (↑a0.length : Int)))
 (gd (inb i5 a0.length)
  (gd (inb i5 b1.length)
   (cn (!decide (getAt (0 : Int) a0 i5.toNat = getAt (0 : Int) b1 i5.toNat))
    (some false)
    (w_eqIntS.l0 k m a0 b1 (IntKind.i64.wrap (i5 + (1 : Int)))))))
 (some true) := by kernel_rfl
theorem w_eqIntS.f_eq (k : Nat) (a : List Int) (b : List Int) : w_eqIntS.f k a b =
 cn (!decide ((↑a.length : Int) = (↑b.length : Int)))
 (some false)
 (w_eqIntS.l0 k k a b ((0 : Int))) := (opq_eq _).trans (by kernel_rfl)
abbrev w_eqStringS.s : Sig := ⟨13, [], [.val, .val], [.one (.row 9 .str), .one (.row 9 .str)], [.one .bool], [], [(0, [(0,false),(1,false),(5,false)])]⟩
noncomputable def w_eqStringS.C (k : Nat) : List (Nat × Ctr) := []
noncomputable def w_eqStringS.f (k : Nat) (a : List ByteArray) (b : List ByteArray) : Option Bool := opq (w_eqStringS.s.run Try.prog (w_eqStringS.C k) k (a, b))
theorem w_eqStringS.ok (k : Nat) : CtrOk Try.prog 13 (w_eqStringS.s.ctr (fun x => w_eqStringS.f k x.1 x.2)) := sig_ok w_eqStringS.s .nil (by kernel_rfl) fun _ => opq_eq _
noncomputable def w_eqStringS.l0 (k : Nat) (m : Nat) (a0 : List ByteArray) (b1 : List ByteArray) (i5 : Int) : Option Bool := w_eqStringS.s.head Try.prog (w_eqStringS.C k) k 1 0 [] m [(0, AV.row 9 Kind.str a0), (1, AV.row 9 Kind.str b1), (5, AV.int IntKind.i64 i5)] [Root.dead]
theorem w_eqStringS.l0_z (k : Nat) (a0 : List ByteArray) (b1 : List ByteArray) (i5 : Int) : w_eqStringS.l0 k 0 a0 b1 i5 = none := by kernel_rfl
theorem w_eqStringS.l0_s (k : Nat) (m : Nat) (a0 : List ByteArray) (b1 : List ByteArray) (i5 : Int) : w_eqStringS.l0 k (m + 1) a0 b1 i5 =
 cn (decide (i5 < (↑a0.length : Int)))
 (gd (inb i5 a0.length)
  (gd (inb i5 b1.length)
   (cn (!decide ((getAt ByteArray.empty a0 i5.toNat).toList = (getAt ByteArray.empty b1 i5.toNat).toList))
    (some false)
    (w_eqStringS.l0 k m a0 b1 (IntKind.i64.wrap (i5 + (1 : Int)))))))
 (some true) := by kernel_rfl
theorem w_eqStringS.f_eq (k : Nat) (a : List ByteArray) (b : List ByteArray) : w_eqStringS.f k a b =
 cn (!decide ((↑a.length : Int) = (↑b.length : Int)))
 (some false)
 (w_eqStringS.l0 k k a b ((0 : Int))) := (opq_eq _).trans (by kernel_rfl)
abbrev w_eqBoolS.s : Sig := ⟨49, [], [.val, .val], [.one (.row 4 .bool), .one (.row 4 .bool)], [.one .bool], [], [(0, [(0,false),(1,false),(5,false)])]⟩
noncomputable def w_eqBoolS.C (k : Nat) : List (Nat × Ctr) := []
noncomputable def w_eqBoolS.f (k : Nat) (a : List Bool) (b : List Bool) : Option Bool := opq (w_eqBoolS.s.run Try.prog (w_eqBoolS.C k) k (a, b))
theorem w_eqBoolS.ok (k : Nat) : CtrOk Try.prog 49 (w_eqBoolS.s.ctr (fun x => w_eqBoolS.f k x.1 x.2)) := sig_ok w_eqBoolS.s .nil (by kernel_rfl) fun _ => opq_eq _
noncomputable def w_eqBoolS.l0 (k : Nat) (m : Nat) (a0 : List Bool) (b1 : List Bool) (i5 : Int) : Option Bool := w_eqBoolS.s.head Try.prog (w_eqBoolS.C k) k 1 0 [] m [(0, AV.row 4 Kind.bool a0), (1, AV.row 4 Kind.bool b1), (5, AV.int IntKind.i64 i5)] [Root.dead]
theorem w_eqBoolS.l0_z (k : Nat) (a0 : List Bool) (b1 : List Bool) (i5 : Int) : w_eqBoolS.l0 k 0 a0 b1 i5 = none := by kernel_rfl
theorem w_eqBoolS.l0_s (k : Nat) (m : Nat) (a0 : List Bool) (b1 : List Bool) (i5 : Int) : w_eqBoolS.l0 k (m + 1) a0 b1 i5 =
 cn (decide (i5 < (↑a0.length : Int)))
 (gd (inb i5 a0.length)
  (gd (inb i5 b1.length)
   (cn (!getAt false a0 i5.toNat == getAt false b1 i5.toNat)
    (some false)
    (w_eqBoolS.l0 k m a0 b1 (IntKind.i64.wrap (i5 + (1 : Int)))))))
 (some true) := by kernel_rfl
theorem w_eqBoolS.f_eq (k : Nat) (a : List Bool) (b : List Bool) : w_eqBoolS.f k a b =
 cn (!decide ((↑a.length : Int) = (↑b.length : Int)))
 (some false)
 (w_eqBoolS.l0 k k a b ((0 : Int))) := (opq_eq _).trans (by kernel_rfl)
abbrev w_eqDisk.s : Sig := ⟨32, [], [.val, .val], [.agg [.row 9 .str, .row 9 .str, .row 4 .bool], .agg [.row 9 .str, .row 9 .str, .row 4 .bool]], [.one .bool], [], []⟩
noncomputable def w_eqDisk.C (k : Nat) : List (Nat × Ctr) := [(13, w_eqStringS.s.ctr (fun x => w_eqStringS.f k x.1 x.2)), (49, w_eqBoolS.s.ctr (fun x => w_eqBoolS.f k x.1 x.2))]
noncomputable def w_eqDisk.f (k : Nat) (a_Plate : List ByteArray) (a_Held : List ByteArray) (a_Bad : List Bool) (b_Plate : List ByteArray) (b_Held : List ByteArray) (b_Bad : List Bool) : Option Bool := opq (w_eqDisk.s.run Try.prog (w_eqDisk.C k) k ((a_Plate, a_Held, a_Bad), (b_Plate, b_Held, b_Bad)))
theorem w_eqDisk.ok (k : Nat) : CtrOk Try.prog 32 (w_eqDisk.s.ctr (fun x => w_eqDisk.f k x.1.1 x.1.2.1 x.1.2.2 x.2.1 x.2.2.1 x.2.2.2)) := sig_ok w_eqDisk.s (.cons (w_eqStringS.ok k) (.cons (w_eqBoolS.ok k) .nil)) (by kernel_rfl) fun _ => opq_eq _
theorem w_eqDisk.f_eq (k : Nat) (a_Plate : List ByteArray) (a_Held : List ByteArray) (a_Bad : List Bool) (b_Plate : List ByteArray) (b_Held : List ByteArray) (b_Bad : List Bool) : w_eqDisk.f k a_Plate a_Held a_Bad b_Plate b_Held b_Bad =
 (w_eqStringS.f k a_Plate b_Plate).bind fun d0 =>
 cn (!d0)
 (some false)
 ((w_eqStringS.f k a_Held b_Held).bind fun d1 =>
  cn (!d1)
  (some false)
  ((w_eqBoolS.f k a_Bad b_Bad).bind fun d2 =>
   cn (!d2)
   (some false)
   (some true))) := (opq_eq _).trans (by kernel_rfl)
abbrev w_markText.s : Sig := ⟨58, [], [.val], [.one (.int .i64)], [.one .str], [], [(0, [(0,false),(3,false)])]⟩
noncomputable def w_markText.C (k : Nat) : List (Nat × Ctr) := []
noncomputable def w_markText.f (k : Nat) (k_ : Int) : Option ByteArray := opq (w_markText.s.run Try.prog (w_markText.C k) k k_)
theorem w_markText.ok (k : Nat) : CtrOk Try.prog 58 (w_markText.s.ctr (fun x => w_markText.f k x)) := sig_ok w_markText.s .nil (by kernel_rfl) fun _ => opq_eq _
noncomputable def w_markText.l0 (k : Nat) (m : Nat) (k0 : Int) (out3 : ByteArray) : Option ByteArray := w_markText.s.head Try.prog (w_markText.C k) k 1 0 [] m [(0, AV.int IntKind.i64 k0), (3, AV.str out3)] [Root.dead]
theorem w_markText.l0_z (k : Nat) (k0 : Int) (out3 : ByteArray) : w_markText.l0 k 0 k0 out3 = none := by kernel_rfl
theorem w_markText.l0_s (k : Nat) (m : Nat) (k0 : Int) (out3 : ByteArray) : w_markText.l0 k (m + 1) k0 out3 =
 cn (decide ((0 : Int) < k0))
 (gd (decide ((strOfNums [IntKind.u8.wrap (IntKind.i64.wrap ((48 : Int) + k0.tmod (10 : Int)))]).size + out3.size ≤ (140737488355328 : Nat)))
  (w_markText.l0 k m (IntKind.i64.wrap (k0.tdiv (10 : Int))) (strOfNums [IntKind.u8.wrap (IntKind.i64.wrap ((48 : Int) + k0.tmod (10 : Int)))] ++ out3)))
 (gd (decide ((1 : Nat) + out3.size ≤ (140737488355328 : Nat)))
  (some ({ data := #[(109 : UInt8)] : ByteArray } ++ out3))) := by kernel_rfl
theorem w_markText.f_eq (k : Nat) (k_ : Int) : w_markText.f k k_ =
 cn (decide (k_ ≤ (0 : Int)))
 (some ({ data := #[(109 : UInt8), (48 : UInt8)] : ByteArray }))
 (w_markText.l0 k k k_ ByteArray.empty) := (opq_eq _).trans (by kernel_rfl)
abbrev w_markStringS.s : Sig := ⟨16, [], [.chg, .val], [.one (.row 9 .str), .one (.int .i64)], [.one (.int .i64)], [.rows 9 .str], [(0, [(0,false),(1,false),(5,false)])]⟩
noncomputable def w_markStringS.C (k : Nat) : List (Nat × Ctr) := [(58, w_markText.s.ctr (fun x => w_markText.f k x))]
noncomputable def w_markStringS.f (k : Nat) (a : List ByteArray) (k_ : Int) : Option (Int × List ByteArray) := opq (w_markStringS.s.run Try.prog (w_markStringS.C k) k (a, k_))
theorem w_markStringS.ok (k : Nat) : CtrOk Try.prog 16 (w_markStringS.s.ctr (fun x => w_markStringS.f k x.1 x.2)) := sig_ok w_markStringS.s (.cons (w_markText.ok k) .nil) (by kernel_rfl) fun _ => opq_eq _
noncomputable def w_markStringS.l0 (k : Nat) (m : Nat) (k1 : Int) (i5 : Int) (h1 : List ByteArray) : Option (Int × List ByteArray) := w_markStringS.s.head Try.prog (w_markStringS.C k) k 2 0 [] m [(0, AV.ref 1), (1, AV.int IntKind.i64 k1), (5, AV.int IntKind.i64 i5)] [Root.dead, Root.rows 9 Kind.str h1]
theorem w_markStringS.l0_z (k : Nat) (k1 : Int) (i5 : Int) (h1 : List ByteArray) : w_markStringS.l0 k 0 k1 i5 h1 = none := by kernel_rfl
theorem w_markStringS.l0_s (k : Nat) (m : Nat) (k1 : Int) (i5 : Int) (h1 : List ByteArray) : w_markStringS.l0 k (m + 1) k1 i5 h1 =
 cn (decide (i5 < (↑h1.length : Int)))
 ((w_markText.f k k1).bind fun d0 =>
  gd (inb i5 h1.length)
  (w_markStringS.l0 k m (IntKind.i64.wrap (k1 + (1 : Int))) (IntKind.i64.wrap (i5 + (1 : Int))) (h1.set i5.toNat d0)))
 (some ((k1, h1))) := by kernel_rfl
theorem w_markStringS.f_eq (k : Nat) (a : List ByteArray) (k_ : Int) : w_markStringS.f k a k_ =
 w_markStringS.l0 k k k_ ((0 : Int)) a := (opq_eq _).trans (by kernel_rfl)
abbrev w_markBoolS.s : Sig := ⟨52, [], [.chg, .val], [.one (.row 4 .bool), .one (.int .i64)], [.one (.int .i64)], [.rows 4 .bool], [(0, [(0,false),(1,false),(5,false)])]⟩
noncomputable def w_markBoolS.C (k : Nat) : List (Nat × Ctr) := []
noncomputable def w_markBoolS.f (k : Nat) (a : List Bool) (k_ : Int) : Option (Int × List Bool) := opq (w_markBoolS.s.run Try.prog (w_markBoolS.C k) k (a, k_))
theorem w_markBoolS.ok (k : Nat) : CtrOk Try.prog 52 (w_markBoolS.s.ctr (fun x => w_markBoolS.f k x.1 x.2)) := sig_ok w_markBoolS.s .nil (by kernel_rfl) fun _ => opq_eq _
noncomputable def w_markBoolS.l0 (k : Nat) (m : Nat) (k1 : Int) (i5 : Int) (h1 : List Bool) : Option (Int × List Bool) := w_markBoolS.s.head Try.prog (w_markBoolS.C k) k 2 0 [] m [(0, AV.ref 1), (1, AV.int IntKind.i64 k1), (5, AV.int IntKind.i64 i5)] [Root.dead, Root.rows 4 Kind.bool h1]
theorem w_markBoolS.l0_z (k : Nat) (k1 : Int) (i5 : Int) (h1 : List Bool) : w_markBoolS.l0 k 0 k1 i5 h1 = none := by kernel_rfl
theorem w_markBoolS.l0_s (k : Nat) (m : Nat) (k1 : Int) (i5 : Int) (h1 : List Bool) : w_markBoolS.l0 k (m + 1) k1 i5 h1 =
 cn (decide (i5 < (↑h1.length : Int)))
 (gd (inb i5 h1.length)
  (w_markBoolS.l0 k m (IntKind.i64.wrap (k1 + (1 : Int))) (IntKind.i64.wrap (i5 + (1 : Int))) (h1.set i5.toNat (decide (k1.tmod (3 : Int) = (0 : Int))))))
 (some ((k1, h1))) := by kernel_rfl
theorem w_markBoolS.f_eq (k : Nat) (a : List Bool) (k_ : Int) : w_markBoolS.f k a k_ =
 w_markBoolS.l0 k k k_ ((0 : Int)) a := (opq_eq _).trans (by kernel_rfl)
abbrev w_markDisk.s : Sig := ⟨33, [.agg 3, .one], [.chg, .chg, .chg, .val], [.one (.row 9 .str), .one (.row 9 .str), .one (.row 4 .bool), .one (.int .i64)], [.one (.int .i64)], [.rows 9 .str, .rows 9 .str, .rows 4 .bool], []⟩
noncomputable def w_markDisk.C (k : Nat) : List (Nat × Ctr) := [(16, w_markStringS.s.ctr (fun x => w_markStringS.f k x.1 x.2)), (52, w_markBoolS.s.ctr (fun x => w_markBoolS.f k x.1 x.2))]
noncomputable def w_markDisk.f (k : Nat) (a_Plate : List ByteArray) (a_Held : List ByteArray) (a_Bad : List Bool) (k_ : Int) : Option (Int × List ByteArray × List ByteArray × List Bool) := opq (w_markDisk.s.run Try.prog (w_markDisk.C k) k (a_Plate, a_Held, a_Bad, k_))
theorem w_markDisk.ok (k : Nat) : CtrOk Try.prog 33 (w_markDisk.s.ctr (fun x => w_markDisk.f k x.1 x.2.1 x.2.2.1 x.2.2.2)) := sig_ok w_markDisk.s (.cons (w_markStringS.ok k) (.cons (w_markBoolS.ok k) .nil)) (by kernel_rfl) fun _ => opq_eq _
theorem w_markDisk.f_eq (k : Nat) (a_Plate : List ByteArray) (a_Held : List ByteArray) (a_Bad : List Bool) (k_ : Int) : w_markDisk.f k a_Plate a_Held a_Bad k_ =
 (w_markStringS.f k a_Plate k_).bind fun d0 =>
 (w_markStringS.f k a_Held d0.fst).bind fun d1 =>
 (w_markBoolS.f k a_Bad d1.fst).bind fun d2 =>
 some ((d2.fst, d0.snd, d1.snd, d2.snd)) := (opq_eq _).trans (by kernel_rfl)
abbrev w_markIntS.s : Sig := ⟨15, [], [.chg, .val], [.one (.row 3 (.int .i64)), .one (.int .i64)], [.one (.int .i64)], [.rows 3 (.int .i64)], [(0, [(0,false),(1,false),(5,false)])]⟩
noncomputable def w_markIntS.C (k : Nat) : List (Nat × Ctr) := []
noncomputable def w_markIntS.f (k : Nat) (a : List Int) (k_ : Int) : Option (Int × List Int) := opq (w_markIntS.s.run Try.prog (w_markIntS.C k) k (a, k_))
theorem w_markIntS.ok (k : Nat) : CtrOk Try.prog 15 (w_markIntS.s.ctr (fun x => w_markIntS.f k x.1 x.2)) := sig_ok w_markIntS.s .nil (by kernel_rfl) fun _ => opq_eq _
noncomputable def w_markIntS.l0 (k : Nat) (m : Nat) (k1 : Int) (i5 : Int) (h1 : List Int) : Option (Int × List Int) := w_markIntS.s.head Try.prog (w_markIntS.C k) k 2 0 [] m [(0, AV.ref 1), (1, AV.int IntKind.i64 k1), (5, AV.int IntKind.i64 i5)] [Root.dead, Root.rows 3 (Kind.int IntKind.i64) h1]
theorem w_markIntS.l0_z (k : Nat) (k1 : Int) (i5 : Int) (h1 : List Int) : w_markIntS.l0 k 0 k1 i5 h1 = none := by kernel_rfl
theorem w_markIntS.l0_s (k : Nat) (m : Nat) (k1 : Int) (i5 : Int) (h1 : List Int) : w_markIntS.l0 k (m + 1) k1 i5 h1 =
 cn (decide (i5 < (↑h1.length : Int)))
 (gd (inb i5 h1.length)
  (w_markIntS.l0 k m (IntKind.i64.wrap (k1 + (1 : Int))) (IntKind.i64.wrap (i5 + (1 : Int))) (h1.set i5.toNat k1)))
 (some ((k1, h1))) := by kernel_rfl
theorem w_markIntS.f_eq (k : Nat) (a : List Int) (k_ : Int) : w_markIntS.f k a k_ =
 w_markIntS.l0 k k k_ ((0 : Int)) a := (opq_eq _).trans (by kernel_rfl)
abbrev w_heldIntS.s : Sig := ⟨22, [], [.val, .val], [.one (.row 3 (.int .i64)), .one (.int .i64)], [.one (.int .i64)], [], [(0, [(0,false),(1,false),(5,false)])]⟩
noncomputable def w_heldIntS.C (k : Nat) : List (Nat × Ctr) := []
noncomputable def w_heldIntS.f (k : Nat) (a : List Int) (k_ : Int) : Option Int := opq (w_heldIntS.s.run Try.prog (w_heldIntS.C k) k (a, k_))
theorem w_heldIntS.ok (k : Nat) : CtrOk Try.prog 22 (w_heldIntS.s.ctr (fun x => w_heldIntS.f k x.1 x.2)) := sig_ok w_heldIntS.s .nil (by kernel_rfl) fun _ => opq_eq _
noncomputable def w_heldIntS.l0 (k : Nat) (m : Nat) (a0 : List Int) (k1 : Int) (i5 : Int) : Option Int := w_heldIntS.s.head Try.prog (w_heldIntS.C k) k 1 0 [] m [(0, AV.row 3 (Kind.int IntKind.i64) a0), (1, AV.int IntKind.i64 k1), (5, AV.int IntKind.i64 i5)] [Root.dead]
theorem w_heldIntS.l0_z (k : Nat) (a0 : List Int) (k1 : Int) (i5 : Int) : w_heldIntS.l0 k 0 a0 k1 i5 = none := by kernel_rfl
theorem w_heldIntS.l0_s (k : Nat) (m : Nat) (a0 : List Int) (k1 : Int) (i5 : Int) : w_heldIntS.l0 k (m + 1) a0 k1 i5 =
 cn (decide (i5 < (↑a0.length : Int)))
 (gd (inb i5 a0.length)
  (cn (!decide (getAt (0 : Int) a0 i5.toNat = k1))
   (some ((-1 : Int)))
   (w_heldIntS.l0 k m a0 (IntKind.i64.wrap (k1 + (1 : Int))) (IntKind.i64.wrap (i5 + (1 : Int))))))
 (some k1) := by kernel_rfl
theorem w_heldIntS.f_eq (k : Nat) (a : List Int) (k_ : Int) : w_heldIntS.f k a k_ =
 w_heldIntS.l0 k k a k_ ((0 : Int)) := (opq_eq _).trans (by kernel_rfl)
abbrev w_FnExactRecoverFrom.s : Sig := ⟨6, [], [.val], [.agg [.row 9 .str, .row 9 .str, .row 4 .bool]], [.one .bool], [], []⟩
noncomputable def w_FnExactRecoverFrom.C (k : Nat) : List (Nat × Ctr) := [(14, w_eqIntS.s.ctr (fun x => w_eqIntS.f k x.1 x.2)), (15, w_markIntS.s.ctr (fun x => w_markIntS.f k x.1 x.2)), (22, w_heldIntS.s.ctr (fun x => w_heldIntS.f k x.1 x.2)), (28, w_szDisk.s.ctr (fun x => w_szDisk.f k x.1.1 x.1.2.1 x.1.2.2 x.2)), (29, s_RecoverFrom.s.ctr (fun x => s_RecoverFrom.f k x.1 x.2.1 x.2.2)), (30, w_toDisk.s.ctr (fun x => w_toDisk.f k x.1 x.2.1 x.2.2)), (31, i_RecoverFrom.s.ctr (fun x => i_RecoverFrom.f k x.1 x.2.1 x.2.2)), (32, w_eqDisk.s.ctr (fun x => w_eqDisk.f k x.1.1 x.1.2.1 x.1.2.2 x.2.1 x.2.2.1 x.2.2.2)), (33, w_markDisk.s.ctr (fun x => w_markDisk.f k x.1 x.2.1 x.2.2.1 x.2.2.2))]
noncomputable def w_FnExactRecoverFrom.f (k : Nat) (aD_Plate : List ByteArray) (aD_Held : List ByteArray) (aD_Bad : List Bool) : Option Bool := opq (w_FnExactRecoverFrom.s.run Try.prog (w_FnExactRecoverFrom.C k) k (aD_Plate, aD_Held, aD_Bad))
theorem w_FnExactRecoverFrom.ok (k : Nat) : CtrOk Try.prog 6 (w_FnExactRecoverFrom.s.ctr (fun x => w_FnExactRecoverFrom.f k x.1 x.2.1 x.2.2)) := sig_ok w_FnExactRecoverFrom.s (.cons (w_eqIntS.ok k) (.cons (w_markIntS.ok k) (.cons (w_heldIntS.ok k) (.cons (w_szDisk.ok k) (.cons (s_RecoverFrom.ok k) (.cons (w_toDisk.ok k) (.cons (i_RecoverFrom.ok k) (.cons (w_eqDisk.ok k) (.cons (w_markDisk.ok k) .nil))))))))) (by kernel_rfl) fun _ => opq_eq _
theorem w_FnExactRecoverFrom.f_eq (k : Nat) (aD_Plate : List ByteArray) (aD_Held : List ByteArray) (aD_Bad : List Bool) : w_FnExactRecoverFrom.f k aD_Plate aD_Held aD_Bad =
 (w_szDisk.f k aD_Plate aD_Held aD_Bad (1048576 : Int)).bind fun d0 =>
 cn (decide (d0 < (0 : Int)))
 (some true)
 ((w_toDisk.f k aD_Plate aD_Held aD_Bad).bind fun d1 =>
  (s_RecoverFrom.f k d1.fst d1.snd.fst d1.snd.snd).bind fun d2 =>
  (w_toDisk.f k aD_Plate aD_Held aD_Bad).bind fun d3 =>
  (i_RecoverFrom.f k d3.fst d3.snd.fst d3.snd.snd).bind fun d4 =>
  (w_eqIntS.f k d4.fst d2.fst).bind fun d5 =>
  cn (!d5)
  (some false)
  (cn (!decide (d4.snd.fst = d2.snd.fst))
   (some false)
   (cn (!d4.snd.snd == d2.snd.snd)
    (some false)
    ((w_toDisk.f k aD_Plate aD_Held aD_Bad).bind fun d6 =>
     (w_eqDisk.f k d3.fst d3.snd.fst d3.snd.snd d6.fst d6.snd.fst d6.snd.snd).bind fun d7 =>
     cn (!d7)
     (some false)
     ((w_markDisk.f k d3.fst d3.snd.fst d3.snd.snd (1 : Int)).bind fun d8 =>
      cn (decide (d8.fst < (0 : Int)))
      (some false)
      ((w_eqIntS.f k d4.fst d2.fst).bind fun d9 =>
       cn (!d9)
       (some false)
       (cn (!decide (d4.snd.fst = d2.snd.fst))
        (some false)
        (cn (!d4.snd.snd == d2.snd.snd)
         (some false)
         ((w_markIntS.f k d4.fst (1 : Int)).bind fun d10 =>
          (w_heldIntS.f k d10.snd (1 : Int)).bind fun d11 =>
          cn (decide (d11 < (0 : Int)))
          (some false)
          (cn (!decide (d11 = d10.fst))
           (some false)
           ((w_toDisk.f k aD_Plate aD_Held aD_Bad).bind fun d12 =>
            (i_RecoverFrom.f k d12.fst d12.snd.fst d12.snd.snd).bind fun d13 =>
            (w_eqIntS.f k d13.fst d2.fst).bind fun d14 =>
            cn (!d14)
            (some false)
            (cn (!decide (d13.snd.fst = d2.snd.fst))
             (some false)
             (cn (!d13.snd.snd == d2.snd.snd)
              (some false)
              ((w_heldIntS.f k d10.snd (1 : Int)).bind fun d15 =>
               cn (decide (d15 < (0 : Int)))
               (some false)
               (cn (!decide (d15 = d10.fst))
                (some false)
                (some true)))))))))))))))) := (opq_eq _).trans (by kernel_rfl)
end Go.Proofs.Ytcddcnnbhbffmaa
