/- The functions that the statement reaches, as the executor tells them; their contracts. No condition. -/
import Derived.Test.YtcddcnnbhbffmaaE36
import Derived.Test.YtcddcnnbhbffmaaProg
import Derived.Test.YtcddcnnbhbffmaaSFg
namespace Go.Proofs.Ytcddcnnbhbffmaa
open Go Go.Proofs.YtcddcnnbhbffmaaE
set_option linter.unusedVariables false
set_option maxRecDepth 100000
abbrev w_szStringS.s : Sig := ⟨18, [], [.val, .val], [.one (.row 9 .str), .one (.int .i64)], [.one (.int .i64)], [], [(0, [(0,false),(1,false),(5,false)])]⟩
noncomputable def w_szStringS.C (k : Nat) : List (Nat × Ctr) := []
noncomputable def w_szStringS.f (k : Nat) (a : List ByteArray) (left : Int) : Option Int := opq (w_szStringS.s.run Try.prog (w_szStringS.C k) k (a, left))
theorem w_szStringS.ok (k : Nat) : CtrOk Try.prog 18 (w_szStringS.s.ctr (fun x => w_szStringS.f k x.1 x.2)) := sig_ok w_szStringS.s .nil (by kernel_rfl) fun _ => opq_eq _
noncomputable def w_szStringS.l0 (k : Nat) (m : Nat) (a0 : List ByteArray) (left1 : Int) (i5 : Int) : Option Int := w_szStringS.s.head Try.prog (w_szStringS.C k) k 1 0 [] m [(0, AV.row 9 Kind.str a0), (1, AV.int IntKind.i64 left1), (5, AV.int IntKind.i64 i5)] [Root.dead]
theorem w_szStringS.l0_z (k : Nat) (a0 : List ByteArray) (left1 : Int) (i5 : Int) : w_szStringS.l0 k 0 a0 left1 i5 = none := by kernel_rfl
theorem w_szStringS.l0_s (k : Nat) (m : Nat) (a0 : List ByteArray) (left1 : Int) (i5 : Int) : w_szStringS.l0 k (m + 1) a0 left1 i5 =
 cn (decide (i5 < (↑a0.length : Int)))
 (gd (inb i5 a0.length)
  (cn (decide (IntKind.i64.wrap (left1 - (↑(getAt ByteArray.empty a0 i5.toNat).size : Int)) < (0 : Int)))
   (some ((-1 : Int)))
   (w_szStringS.l0 k m a0 (IntKind.i64.wrap (left1 - (↑(getAt ByteArray.empty a0 i5.toNat).size : Int))) (IntKind.i64.wrap (i5 + (1 : Int))))))
 (some left1) := by kernel_rfl
theorem w_szStringS.f_eq (k : Nat) (a : List ByteArray) (left : Int) : w_szStringS.f k a left =
 cn (decide (IntKind.i64.wrap (left - (↑a.length : Int)) < (0 : Int)))
 (some ((-1 : Int)))
 (w_szStringS.l0 k k a (IntKind.i64.wrap (left - (↑a.length : Int))) ((0 : Int))) := (opq_eq _).trans (by kernel_rfl)
abbrev w_szBoolS.s : Sig := ⟨70, [], [.val, .val], [.one (.row 4 .bool), .one (.int .i64)], [.one (.int .i64)], [], []⟩
noncomputable def w_szBoolS.C (k : Nat) : List (Nat × Ctr) := []
noncomputable def w_szBoolS.f (k : Nat) (a : List Bool) (left : Int) : Option Int := opq (w_szBoolS.s.run Try.prog (w_szBoolS.C k) k (a, left))
theorem w_szBoolS.ok (k : Nat) : CtrOk Try.prog 70 (w_szBoolS.s.ctr (fun x => w_szBoolS.f k x.1 x.2)) := sig_ok w_szBoolS.s .nil (by kernel_rfl) fun _ => opq_eq _
theorem w_szBoolS.f_eq (k : Nat) (a : List Bool) (left : Int) : w_szBoolS.f k a left =
 cn (decide (IntKind.i64.wrap (left - (↑a.length : Int)) < (0 : Int)))
 (some ((-1 : Int)))
 (some (IntKind.i64.wrap (left - (↑a.length : Int)))) := (opq_eq _).trans (by kernel_rfl)
abbrev w_szDisk.s : Sig := ⟨28, [], [.val, .val], [.agg [.row 9 .str, .row 9 .str, .row 4 .bool], .one (.int .i64)], [.one (.int .i64)], [], []⟩
noncomputable def w_szDisk.C (k : Nat) : List (Nat × Ctr) := [(18, w_szStringS.s.ctr (fun x => w_szStringS.f k x.1 x.2)), (70, w_szBoolS.s.ctr (fun x => w_szBoolS.f k x.1 x.2))]
noncomputable def w_szDisk.f (k : Nat) (a_Plate : List ByteArray) (a_Held : List ByteArray) (a_Bad : List Bool) (left : Int) : Option Int := opq (w_szDisk.s.run Try.prog (w_szDisk.C k) k ((a_Plate, a_Held, a_Bad), left))
theorem w_szDisk.ok (k : Nat) : CtrOk Try.prog 28 (w_szDisk.s.ctr (fun x => w_szDisk.f k x.1.1 x.1.2.1 x.1.2.2 x.2)) := sig_ok w_szDisk.s (.cons (w_szStringS.ok k) (.cons (w_szBoolS.ok k) .nil)) (by kernel_rfl) fun _ => opq_eq _
theorem w_szDisk.f_eq (k : Nat) (a_Plate : List ByteArray) (a_Held : List ByteArray) (a_Bad : List Bool) (left : Int) : w_szDisk.f k a_Plate a_Held a_Bad left =
 (w_szStringS.f k a_Plate left).bind fun d0 =>
 cn (decide (d0 < (0 : Int)))
 (some ((-1 : Int)))
 ((w_szStringS.f k a_Held d0).bind fun d1 =>
  cn (decide (d1 < (0 : Int)))
  (some ((-1 : Int)))
  ((w_szBoolS.f k a_Bad d1).bind fun d2 =>
   cn (decide (d2 < (0 : Int)))
   (some ((-1 : Int)))
   (some d2))) := (opq_eq _).trans (by kernel_rfl)
abbrev w_szIntS.s : Sig := ⟨78, [], [.val, .val], [.one (.row 3 (.int .i64)), .one (.int .i64)], [.one (.int .i64)], [], []⟩
noncomputable def w_szIntS.C (k : Nat) : List (Nat × Ctr) := []
noncomputable def w_szIntS.f (k : Nat) (a : List Int) (left : Int) : Option Int := opq (w_szIntS.s.run Try.prog (w_szIntS.C k) k (a, left))
theorem w_szIntS.ok (k : Nat) : CtrOk Try.prog 78 (w_szIntS.s.ctr (fun x => w_szIntS.f k x.1 x.2)) := sig_ok w_szIntS.s .nil (by kernel_rfl) fun _ => opq_eq _
theorem w_szIntS.f_eq (k : Nat) (a : List Int) (left : Int) : w_szIntS.f k a left =
 cn (decide (IntKind.i64.wrap (left - (↑a.length : Int)) < (0 : Int)))
 (some ((-1 : Int)))
 (some (IntKind.i64.wrap (left - (↑a.length : Int)))) := (opq_eq _).trans (by kernel_rfl)
abbrev w_szJournal.s : Sig := ⟨34, [], [.val, .val], [.agg [.row 9 .str, .row 9 .str, .row 4 .bool, .int .i64, .int .i64, .row 3 (.int .i64), .row 3 (.int .i64)], .one (.int .i64)], [.one (.int .i64)], [], []⟩
noncomputable def w_szJournal.C (k : Nat) : List (Nat × Ctr) := [(28, w_szDisk.s.ctr (fun x => w_szDisk.f k x.1.1 x.1.2.1 x.1.2.2 x.2)), (78, w_szIntS.s.ctr (fun x => w_szIntS.f k x.1 x.2))]
noncomputable def w_szJournal.f (k : Nat) (a_Disk_Plate : List ByteArray) (a_Disk_Held : List ByteArray) (a_Disk_Bad : List Bool) (a_Epoch : Int) (a_Phase : Int) (a_Acked : List Int) (a_Coming : List Int) (left : Int) : Option Int := opq (w_szJournal.s.run Try.prog (w_szJournal.C k) k ((a_Disk_Plate, a_Disk_Held, a_Disk_Bad, a_Epoch, a_Phase, a_Acked, a_Coming), left))
theorem w_szJournal.ok (k : Nat) : CtrOk Try.prog 34 (w_szJournal.s.ctr (fun x => w_szJournal.f k x.1.1 x.1.2.1 x.1.2.2.1 x.1.2.2.2.1 x.1.2.2.2.2.1 x.1.2.2.2.2.2.1 x.1.2.2.2.2.2.2 x.2)) := sig_ok w_szJournal.s (.cons (w_szDisk.ok k) (.cons (w_szIntS.ok k) .nil)) (by kernel_rfl) fun _ => opq_eq _
theorem w_szJournal.f_eq (k : Nat) (a_Disk_Plate : List ByteArray) (a_Disk_Held : List ByteArray) (a_Disk_Bad : List Bool) (a_Epoch : Int) (a_Phase : Int) (a_Acked : List Int) (a_Coming : List Int) (left : Int) : w_szJournal.f k a_Disk_Plate a_Disk_Held a_Disk_Bad a_Epoch a_Phase a_Acked a_Coming left =
 (w_szDisk.f k a_Disk_Plate a_Disk_Held a_Disk_Bad left).bind fun d0 =>
 cn (decide (d0 < (0 : Int)))
 (some ((-1 : Int)))
 ((w_szIntS.f k a_Acked d0).bind fun d1 =>
  cn (decide (d1 < (0 : Int)))
  (some ((-1 : Int)))
  ((w_szIntS.f k a_Coming d1).bind fun d2 =>
   cn (decide (d2 < (0 : Int)))
   (some ((-1 : Int)))
   (some d2))) := (opq_eq _).trans (by kernel_rfl)
abbrev w_toStringS.s : Sig := ⟨20, [], [.val], [.one (.row 9 .str)], [.one (.own 9 .str)], [], [(0, [(0,false),(3,true),(4,false)])]⟩
noncomputable def w_toStringS.C (k : Nat) : List (Nat × Ctr) := []
noncomputable def w_toStringS.f (k : Nat) (a : List ByteArray) : Option (List ByteArray) := opq (w_toStringS.s.run Try.prog (w_toStringS.C k) k a)
theorem w_toStringS.ok (k : Nat) : CtrOk Try.prog 20 (w_toStringS.s.ctr (fun x => w_toStringS.f k x)) := sig_ok w_toStringS.s .nil (by kernel_rfl) fun _ => opq_eq _
noncomputable def w_toStringS.l0 (k : Nat) (m : Nat) (a0 : List ByteArray) (i4 : Int) (h1 : List ByteArray) : Option (List ByteArray) := w_toStringS.s.head Try.prog (w_toStringS.C k) k 1 0 [] m [(0, AV.row 9 Kind.str a0), (3, AV.ref 1), (4, AV.int IntKind.i64 i4)] [Root.dead, Root.rows 9 Kind.str h1]
theorem w_toStringS.l0_z (k : Nat) (a0 : List ByteArray) (i4 : Int) (h1 : List ByteArray) : w_toStringS.l0 k 0 a0 i4 h1 = none := by kernel_rfl
theorem w_toStringS.l0_s (k : Nat) (m : Nat) (a0 : List ByteArray) (i4 : Int) (h1 : List ByteArray) : w_toStringS.l0 k (m + 1) a0 i4 h1 =
 cn (decide (i4 < (↑a0.length : Int)))
 (gd (inb i4 a0.length)
  (gd (inb i4 h1.length)
   (w_toStringS.l0 k m a0 (IntKind.i64.wrap (i4 + (1 : Int))) (h1.set i4.toNat (getAt ByteArray.empty a0 i4.toNat)))))
 (some h1) := by kernel_rfl
theorem w_toStringS.f_eq (k : Nat) (a : List ByteArray) : w_toStringS.f k a =
 gd (mkOk (↑a.length : Int) (↑a.length : Int) (Try.prog.bytesOf (9 : Nat)))
 (w_toStringS.l0 k k a ((0 : Int)) (List.replicate (↑a.length : Int).toNat ByteArray.empty)) := (opq_eq _).trans (by kernel_rfl)
abbrev w_toBoolS.s : Sig := ⟨73, [], [.val], [.one (.row 4 .bool)], [.one (.own 4 .bool)], [], [(0, [(0,false),(3,true),(4,false)])]⟩
noncomputable def w_toBoolS.C (k : Nat) : List (Nat × Ctr) := []
noncomputable def w_toBoolS.f (k : Nat) (a : List Bool) : Option (List Bool) := opq (w_toBoolS.s.run Try.prog (w_toBoolS.C k) k a)
theorem w_toBoolS.ok (k : Nat) : CtrOk Try.prog 73 (w_toBoolS.s.ctr (fun x => w_toBoolS.f k x)) := sig_ok w_toBoolS.s .nil (by kernel_rfl) fun _ => opq_eq _
noncomputable def w_toBoolS.l0 (k : Nat) (m : Nat) (a0 : List Bool) (i4 : Int) (h1 : List Bool) : Option (List Bool) := w_toBoolS.s.head Try.prog (w_toBoolS.C k) k 1 0 [] m [(0, AV.row 4 Kind.bool a0), (3, AV.ref 1), (4, AV.int IntKind.i64 i4)] [Root.dead, Root.rows 4 Kind.bool h1]
theorem w_toBoolS.l0_z (k : Nat) (a0 : List Bool) (i4 : Int) (h1 : List Bool) : w_toBoolS.l0 k 0 a0 i4 h1 = none := by kernel_rfl
theorem w_toBoolS.l0_s (k : Nat) (m : Nat) (a0 : List Bool) (i4 : Int) (h1 : List Bool) : w_toBoolS.l0 k (m + 1) a0 i4 h1 =
 cn (decide (i4 < (↑a0.length : Int)))
 (gd (inb i4 a0.length)
  (gd (inb i4 h1.length)
   (w_toBoolS.l0 k m a0 (IntKind.i64.wrap (i4 + (1 : Int))) (h1.set i4.toNat (getAt false a0 i4.toNat)))))
 (some h1) := by kernel_rfl
theorem w_toBoolS.f_eq (k : Nat) (a : List Bool) : w_toBoolS.f k a =
 gd (mkOk (↑a.length : Int) (↑a.length : Int) (Try.prog.bytesOf (4 : Nat)))
 (w_toBoolS.l0 k k a ((0 : Int)) (List.replicate (↑a.length : Int).toNat false)) := (opq_eq _).trans (by kernel_rfl)
abbrev w_toDisk.s : Sig := ⟨30, [], [.val], [.agg [.row 9 .str, .row 9 .str, .row 4 .bool]], [.agg [.own 9 .str, .own 9 .str, .own 4 .bool]], [], []⟩
noncomputable def w_toDisk.C (k : Nat) : List (Nat × Ctr) := [(20, w_toStringS.s.ctr (fun x => w_toStringS.f k x)), (73, w_toBoolS.s.ctr (fun x => w_toBoolS.f k x))]
noncomputable def w_toDisk.f (k : Nat) (a_Plate : List ByteArray) (a_Held : List ByteArray) (a_Bad : List Bool) : Option (List ByteArray × List ByteArray × List Bool) := opq (w_toDisk.s.run Try.prog (w_toDisk.C k) k (a_Plate, a_Held, a_Bad))
theorem w_toDisk.ok (k : Nat) : CtrOk Try.prog 30 (w_toDisk.s.ctr (fun x => w_toDisk.f k x.1 x.2.1 x.2.2)) := sig_ok w_toDisk.s (.cons (w_toStringS.ok k) (.cons (w_toBoolS.ok k) .nil)) (by kernel_rfl) fun _ => opq_eq _
theorem w_toDisk.f_eq (k : Nat) (a_Plate : List ByteArray) (a_Held : List ByteArray) (a_Bad : List Bool) : w_toDisk.f k a_Plate a_Held a_Bad =
 (w_toStringS.f k a_Plate).bind fun d0 =>
 (w_toStringS.f k a_Held).bind fun d1 =>
 (w_toBoolS.f k a_Bad).bind fun d2 =>
 some ((d0, d1, d2)) := (opq_eq _).trans (by kernel_rfl)
abbrev w_toIntS.s : Sig := ⟨11, [], [.val], [.one (.row 3 (.int .i64))], [.one (.own 3 (.int .i64))], [], [(0, [(0,false),(3,true),(4,false)])]⟩
noncomputable def w_toIntS.C (k : Nat) : List (Nat × Ctr) := []
noncomputable def w_toIntS.f (k : Nat) (a : List Int) : Option (List Int) := opq (w_toIntS.s.run Try.prog (w_toIntS.C k) k a)
theorem w_toIntS.ok (k : Nat) : CtrOk Try.prog 11 (w_toIntS.s.ctr (fun x => w_toIntS.f k x)) := sig_ok w_toIntS.s .nil (by kernel_rfl) fun _ => opq_eq _
noncomputable def w_toIntS.l0 (k : Nat) (m : Nat) (a0 : List Int) (i4 : Int) (h1 : List Int) : Option (List Int) := w_toIntS.s.head Try.prog (w_toIntS.C k) k 1 0 [] m [(0, AV.row 3 (Kind.int IntKind.i64) a0), (3, AV.ref 1), (4, AV.int IntKind.i64 i4)] [Root.dead, Root.rows 3 (Kind.int IntKind.i64) h1]
theorem w_toIntS.l0_z (k : Nat) (a0 : List Int) (i4 : Int) (h1 : List Int) : w_toIntS.l0 k 0 a0 i4 h1 = none := by kernel_rfl
theorem w_toIntS.l0_s (k : Nat) (m : Nat) (a0 : List Int) (i4 : Int) (h1 : List Int) : w_toIntS.l0 k (m + 1) a0 i4 h1 =
 cn (decide (i4 < (↑a0.length : Int)))
 (gd (inb i4 a0.length)
  (gd (inb i4 h1.length)
   (w_toIntS.l0 k m a0 (IntKind.i64.wrap (i4 + (1 : Int))) (h1.set i4.toNat (getAt (0 : Int) a0 i4.toNat)))))
 (some h1) := by kernel_rfl
theorem w_toIntS.f_eq (k : Nat) (a : List Int) : w_toIntS.f k a =
 gd (mkOk (↑a.length : Int) (↑a.length : Int) (Try.prog.bytesOf (3 : Nat)))
 (w_toIntS.l0 k k a ((0 : Int)) (List.replicate (↑a.length : Int).toNat (0 : Int))) := (opq_eq _).trans (by kernel_rfl)
abbrev w_toJournal.s : Sig := ⟨36, [], [.val], [.agg [.row 9 .str, .row 9 .str, .row 4 .bool, .int .i64, .int .i64, .row 3 (.int .i64), .row 3 (.int .i64)]], [.agg [.own 9 .str, .own 9 .str, .own 4 .bool, .int .i64, .int .i64, .own 3 (.int .i64), .own 3 (.int .i64)]], [], []⟩
noncomputable def w_toJournal.C (k : Nat) : List (Nat × Ctr) := [(11, w_toIntS.s.ctr (fun x => w_toIntS.f k x)), (30, w_toDisk.s.ctr (fun x => w_toDisk.f k x.1 x.2.1 x.2.2))]
noncomputable def w_toJournal.f (k : Nat) (a_Disk_Plate : List ByteArray) (a_Disk_Held : List ByteArray) (a_Disk_Bad : List Bool) (a_Epoch : Int) (a_Phase : Int) (a_Acked : List Int) (a_Coming : List Int) : Option (List ByteArray × List ByteArray × List Bool × Int × Int × List Int × List Int) := opq (w_toJournal.s.run Try.prog (w_toJournal.C k) k (a_Disk_Plate, a_Disk_Held, a_Disk_Bad, a_Epoch, a_Phase, a_Acked, a_Coming))
theorem w_toJournal.ok (k : Nat) : CtrOk Try.prog 36 (w_toJournal.s.ctr (fun x => w_toJournal.f k x.1 x.2.1 x.2.2.1 x.2.2.2.1 x.2.2.2.2.1 x.2.2.2.2.2.1 x.2.2.2.2.2.2)) := sig_ok w_toJournal.s (.cons (w_toIntS.ok k) (.cons (w_toDisk.ok k) .nil)) (by kernel_rfl) fun _ => opq_eq _
theorem w_toJournal.f_eq (k : Nat) (a_Disk_Plate : List ByteArray) (a_Disk_Held : List ByteArray) (a_Disk_Bad : List Bool) (a_Epoch : Int) (a_Phase : Int) (a_Acked : List Int) (a_Coming : List Int) : w_toJournal.f k a_Disk_Plate a_Disk_Held a_Disk_Bad a_Epoch a_Phase a_Acked a_Coming =
 (w_toDisk.f k a_Disk_Plate a_Disk_Held a_Disk_Bad).bind fun d0 =>
 (w_toIntS.f k a_Acked).bind fun d1 =>
 (w_toIntS.f k a_Coming).bind fun d2 =>
 some ((d0.fst, d0.snd.fst, d0.snd.snd, a_Epoch, a_Phase, d1, d2)) := (opq_eq _).trans (by kernel_rfl)
abbrev s_l1In.s : Sig := ⟨79, [], [.val, .val, .val], [.one (.int .i64), .one (.int .i64), .one (.int .i64)], [.one .bool], [], []⟩
noncomputable def s_l1In.C (k : Nat) : List (Nat × Ctr) := []
noncomputable def s_l1In.f (k : Nat) (n : Int) (lo : Int) (hi : Int) : Option Bool := opq (s_l1In.s.run Try.prog (s_l1In.C k) k (n, lo, hi))
theorem s_l1In.ok (k : Nat) : CtrOk Try.prog 79 (s_l1In.s.ctr (fun x => s_l1In.f k x.1 x.2.1 x.2.2)) := sig_ok s_l1In.s .nil (by kernel_rfl) fun _ => opq_eq _
theorem s_l1In.f_eq (k : Nat) (n : Int) (lo : Int) (hi : Int) : s_l1In.f k n lo hi =
 cn (decide (lo ≤ n))
 (some (decide (n ≤ hi)))
 (some false) := (opq_eq _).trans (by kernel_rfl)
abbrev s_GoodDisk.s : Sig := ⟨71, [], [.val], [.agg [.row 9 .str, .row 9 .str, .row 4 .bool]], [.one .bool], [], [(0, [(1,false),(27,false),(28,false)])]⟩
noncomputable def s_GoodDisk.C (k : Nat) : List (Nat × Ctr) := [(79, s_l1In.s.ctr (fun x => s_l1In.f k x.1 x.2.1 x.2.2))]
noncomputable def s_GoodDisk.f (k : Nat) (d_Plate : List ByteArray) (d_Held : List ByteArray) (d_Bad : List Bool) : Option Bool := opq (s_GoodDisk.s.run Try.prog (s_GoodDisk.C k) k (d_Plate, d_Held, d_Bad))
theorem s_GoodDisk.ok (k : Nat) : CtrOk Try.prog 71 (s_GoodDisk.s.ctr (fun x => s_GoodDisk.f k x.1 x.2.1 x.2.2)) := sig_ok s_GoodDisk.s (.cons (s_l1In.ok k) .nil) (by kernel_rfl) fun _ => opq_eq _
noncomputable def s_GoodDisk.l0 (k : Nat) (m : Nat) (t27 : Int) (t28 : Int) (h1 : List ByteArray) (h1_ : List ByteArray) (h1__ : List Bool) : Option Bool := s_GoodDisk.s.head Try.prog (s_GoodDisk.C k) k 1 0 [] m [(1, AV.ptr 1 0 0), (27, AV.int IntKind.i64 t27), (28, AV.int IntKind.i64 t28)] [Root.dead, Root.box 38 [AV.row 9 Kind.str h1, AV.row 9 Kind.str h1_, AV.row 4 Kind.bool h1__]]
theorem s_GoodDisk.l0_z (k : Nat) (t27 : Int) (t28 : Int) (h1 : List ByteArray) (h1_ : List ByteArray) (h1__ : List Bool) : s_GoodDisk.l0 k 0 t27 t28 h1 h1_ h1__ = none := by kernel_rfl
theorem s_GoodDisk.l0_s (k : Nat) (m : Nat) (t27 : Int) (t28 : Int) (h1 : List ByteArray) (h1_ : List ByteArray) (h1__ : List Bool) : s_GoodDisk.l0 k (m + 1) t27 t28 h1 h1_ h1__ =
 cn (decide (t28 < t27))
 (gd (inb t28 h1.length)
  (cn (decide ((28 : Int) < (↑(getAt ByteArray.empty h1 t28.toNat).size : Int)))
   (some false)
   (gd (inb t28 h1_.length)
    (cn (decide ((28 : Int) < (↑(getAt ByteArray.empty h1_ t28.toNat).size : Int)))
     (some false)
     (gd (inb t28 h1__.length)
      (cn (getAt false h1__ t28.toNat)
       (gd (inb t28 h1_.length)
        (cn (!decide ((getAt ByteArray.empty h1_ t28.toNat).toList = ByteArray.empty.toList))
         (some false)
         (s_GoodDisk.l0 k m t27 (IntKind.i64.wrap (t28 + (1 : Int))) h1 h1_ h1__)))
       (s_GoodDisk.l0 k m t27 (IntKind.i64.wrap (t28 + (1 : Int))) h1 h1_ h1__)))))))
 (some true) := by kernel_rfl
theorem s_GoodDisk.f_eq (k : Nat) (d_Plate : List ByteArray) (d_Held : List ByteArray) (d_Bad : List Bool) : s_GoodDisk.f k d_Plate d_Held d_Bad =
 (s_l1In.f k (↑d_Plate.length : Int) (1 : Int) (24 : Int)).bind fun d0 =>
 cn (!d0)
 (some false)
 (cn (!decide ((↑d_Held.length : Int) = (↑d_Plate.length : Int)))
  (some false)
  (cn (!decide ((↑d_Bad.length : Int) = (↑d_Plate.length : Int)))
   (some false)
   (s_GoodDisk.l0 k k ((↑d_Plate.length : Int)) ((0 : Int)) d_Plate d_Held d_Bad))) := (opq_eq _).trans (by kernel_rfl)
abbrev s_l15State.s : Sig := ⟨54, [], [.val], [.one (.row 3 (.int .i64))], [.one .bool], [], [(0, [(0,false),(5,true),(6,false),(7,false)])]⟩
noncomputable def s_l15State.C (k : Nat) : List (Nat × Ctr) := [(79, s_l1In.s.ctr (fun x => s_l1In.f k x.1 x.2.1 x.2.2))]
noncomputable def s_l15State.f (k : Nat) (values : List Int) : Option Bool := opq (s_l15State.s.run Try.prog (s_l15State.C k) k values)
theorem s_l15State.ok (k : Nat) : CtrOk Try.prog 54 (s_l15State.s.ctr (fun x => s_l15State.f k x)) := sig_ok s_l15State.s (.cons (s_l1In.ok k) .nil) (by kernel_rfl) fun _ => opq_eq _
noncomputable def s_l15State.l0 (k : Nat) (m : Nat) (values0 : List Int) (t5 : List Int) (t6 : Int) (t7 : Int) : Option Bool := s_l15State.s.head Try.prog (s_l15State.C k) k 1 0 [] m [(0, AV.row 3 (Kind.int IntKind.i64) values0), (5, AV.row 3 (Kind.int IntKind.i64) t5), (6, AV.int IntKind.i64 t6), (7, AV.int IntKind.i64 t7)] [Root.dead]
theorem s_l15State.l0_z (k : Nat) (values0 : List Int) (t5 : List Int) (t6 : Int) (t7 : Int) : s_l15State.l0 k 0 values0 t5 t6 t7 = none := by kernel_rfl
theorem s_l15State.l0_s (k : Nat) (m : Nat) (values0 : List Int) (t5 : List Int) (t6 : Int) (t7 : Int) : s_l15State.l0 k (m + 1) values0 t5 t6 t7 =
 cn (decide (t7 < t6))
 (gd (inb t7 t5.length)
  ((s_l1In.f k (getAt (0 : Int) t5 t7.toNat) (0 : Int) (65535 : Int)).bind fun d0 =>
   cn (!d0)
   (some false)
   (s_l15State.l0 k m values0 t5 t6 (IntKind.i64.wrap (t7 + (1 : Int))))))
 (some (decide ((↑values0.length : Int) = (6 : Int)))) := by kernel_rfl
theorem s_l15State.f_eq (k : Nat) (values : List Int) : s_l15State.f k values =
 s_l15State.l0 k k values values ((↑values.length : Int)) ((0 : Int)) := (opq_eq _).trans (by kernel_rfl)
abbrev s_l7Own.s : Sig := ⟨80, [], [.val], [.agg [.row 9 .str, .row 9 .str, .row 4 .bool]], [.agg [.own 9 .str, .own 9 .str, .own 4 .bool]], [], []⟩
noncomputable def s_l7Own.C (k : Nat) : List (Nat × Ctr) := []
noncomputable def s_l7Own.f (k : Nat) (d_Plate : List ByteArray) (d_Held : List ByteArray) (d_Bad : List Bool) : Option (List ByteArray × List ByteArray × List Bool) := opq (s_l7Own.s.run Try.prog (s_l7Own.C k) k (d_Plate, d_Held, d_Bad))
theorem s_l7Own.ok (k : Nat) : CtrOk Try.prog 80 (s_l7Own.s.ctr (fun x => s_l7Own.f k x.1 x.2.1 x.2.2)) := sig_ok s_l7Own.s .nil (by kernel_rfl) fun _ => opq_eq _
theorem s_l7Own.f_eq (k : Nat) (d_Plate : List ByteArray) (d_Held : List ByteArray) (d_Bad : List Bool) : s_l7Own.f k d_Plate d_Held d_Bad =

 let z0 : Option (List ByteArray × List ByteArray × List Bool) := gd (appOk ((0 : Nat) + d_Bad.length) (Try.prog.bytesOf (4 : Nat))) (some (([] ++ d_Plate, [] ++ d_Held, [] ++ d_Bad)));
 let z1 : Option (List ByteArray × List ByteArray × List Bool) := gd (appOk ((0 : Nat) + d_Held.length) (Try.prog.bytesOf (9 : Nat))) z0;
 let z2 : Option (List ByteArray × List ByteArray × List Bool) := both z1 z1;
 let z3 : Option (List ByteArray × List ByteArray × List Bool) := both z2 z2;
 let z4 : Option (List ByteArray × List ByteArray × List Bool) := both z1 z3;
 let z5 : Option (List ByteArray × List ByteArray × List Bool) := both z2 z1;
 let z6 : Option (List ByteArray × List ByteArray × List Bool) := both z5 z5;
 let z7 : Option (List ByteArray × List ByteArray × List Bool) := both z4 z6;
 let z8 : Option (List ByteArray × List ByteArray × List Bool) := gd (appOk ((0 : Nat) + d_Plate.length) (Try.prog.bytesOf (9 : Nat))) z7;
 let z9 : Option (List ByteArray × List ByteArray × List Bool) := gd (appOk ((0 : Nat) + d_Plate.length) (Try.prog.bytesOf (9 : Nat))) z4;
 let z10 : Option (List ByteArray × List ByteArray × List Bool) := gd (appOk ((0 : Nat) + d_Plate.length) (Try.prog.bytesOf (9 : Nat))) z2;
 let z11 : Option (List ByteArray × List ByteArray × List Bool) := gd (appOk ((0 : Nat) + d_Plate.length) (Try.prog.bytesOf (9 : Nat))) z1;
 let z12 : Option (List ByteArray × List ByteArray × List Bool) := both z10 z11;
 let z13 : Option (List ByteArray × List ByteArray × List Bool) := both z12 z12;
 let z14 : Option (List ByteArray × List ByteArray × List Bool) := both z9 z13;
 let z15 : Option (List ByteArray × List ByteArray × List Bool) := both z11 z11;
 let z16 : Option (List ByteArray × List ByteArray × List Bool) := both z12 z15;
 let z17 : Option (List ByteArray × List ByteArray × List Bool) := both z10 z16;
 let z18 : Option (List ByteArray × List ByteArray × List Bool) := both z17 z17;
 let z19 : Option (List ByteArray × List ByteArray × List Bool) := both z14 z18;
 let z20 : Option (List ByteArray × List ByteArray × List Bool) := both z9 z19;
 let z21 : Option (List ByteArray × List ByteArray × List Bool) := gd (appOk ((0 : Nat) + d_Plate.length) (Try.prog.bytesOf (9 : Nat))) z5;
 let z22 : Option (List ByteArray × List ByteArray × List Bool) := both z21 z16;
 let z23 : Option (List ByteArray × List ByteArray × List Bool) := both z22 z22;
 let z24 : Option (List ByteArray × List ByteArray × List Bool) := both z14 z23;
 let z25 : Option (List ByteArray × List ByteArray × List Bool) := both z8 z24;
 let z26 : Option (List ByteArray × List ByteArray × List Bool) := both z15 z15;
 let z27 : Option (List ByteArray × List ByteArray × List Bool) := both z11 z26;
 let z28 : Option (List ByteArray × List ByteArray × List Bool) := both z22 z27;
 let z29 : Option (List ByteArray × List ByteArray × List Bool) := both z17 z28;
 let z30 : Option (List ByteArray × List ByteArray × List Bool) := both z21 z29;
 let z31 : Option (List ByteArray × List ByteArray × List Bool) := both z30 z30;
 let z32 : Option (List ByteArray × List ByteArray × List Bool) := both z25 z31;
 let z33 : Option (List ByteArray × List ByteArray × List Bool) := both z20 z32;
 let z34 : Option (List ByteArray × List ByteArray × List Bool) := both z8 z33;
 let z35 : Option (List ByteArray × List ByteArray × List Bool) := both z12 z11;
 let z36 : Option (List ByteArray × List ByteArray × List Bool) := both z35 z35;
 let z37 : Option (List ByteArray × List ByteArray × List Bool) := both z14 z36;
 let z38 : Option (List ByteArray × List ByteArray × List Bool) := both z15 z11;
 let z39 : Option (List ByteArray × List ByteArray × List Bool) := both z35 z38;
 let z40 : Option (List ByteArray × List ByteArray × List Bool) := both z17 z39;
 let z41 : Option (List ByteArray × List ByteArray × List Bool) := both z40 z40;
 let z42 : Option (List ByteArray × List ByteArray × List Bool) := both z37 z41;
 let z43 : Option (List ByteArray × List ByteArray × List Bool) := both z20 z42;
 let z44 : Option (List ByteArray × List ByteArray × List Bool) := both z22 z39;
 let z45 : Option (List ByteArray × List ByteArray × List Bool) := both z44 z44;
 let z46 : Option (List ByteArray × List ByteArray × List Bool) := both z37 z45;
 let z47 : Option (List ByteArray × List ByteArray × List Bool) := both z25 z46;
 let z48 : Option (List ByteArray × List ByteArray × List Bool) := both z38 z38;
 let z49 : Option (List ByteArray × List ByteArray × List Bool) := both z27 z48;
 let z50 : Option (List ByteArray × List ByteArray × List Bool) := both z44 z49;
 let z51 : Option (List ByteArray × List ByteArray × List Bool) := both z40 z50;
 let z52 : Option (List ByteArray × List ByteArray × List Bool) := both z30 z51;
 let z53 : Option (List ByteArray × List ByteArray × List Bool) := both z52 z52;
 let z54 : Option (List ByteArray × List ByteArray × List Bool) := both z47 z53;
 let z55 : Option (List ByteArray × List ByteArray × List Bool) := both z43 z54;
 both z34 z55 := (opq_eq _).trans (by kernel_rfl)
abbrev s_l1Has.s : Sig := ⟨103, [], [.val, .val], [.one (.row 3 (.int .i64)), .one (.int .i64)], [.one .bool], [], [(0, [(1,false),(7,true),(8,false),(9,false)])]⟩
noncomputable def s_l1Has.C (k : Nat) : List (Nat × Ctr) := []
noncomputable def s_l1Has.f (k : Nat) (l : List Int) (n : Int) : Option Bool := opq (s_l1Has.s.run Try.prog (s_l1Has.C k) k (l, n))
theorem s_l1Has.ok (k : Nat) : CtrOk Try.prog 103 (s_l1Has.s.ctr (fun x => s_l1Has.f k x.1 x.2)) := sig_ok s_l1Has.s .nil (by kernel_rfl) fun _ => opq_eq _
noncomputable def s_l1Has.l0 (k : Nat) (m : Nat) (n1 : Int) (t7 : List Int) (t8 : Int) (t9 : Int) : Option Bool := s_l1Has.s.head Try.prog (s_l1Has.C k) k 1 0 [] m [(1, AV.int IntKind.i64 n1), (7, AV.row 3 (Kind.int IntKind.i64) t7), (8, AV.int IntKind.i64 t8), (9, AV.int IntKind.i64 t9)] [Root.dead]
theorem s_l1Has.l0_z (k : Nat) (n1 : Int) (t7 : List Int) (t8 : Int) (t9 : Int) : s_l1Has.l0 k 0 n1 t7 t8 t9 = none := by kernel_rfl
theorem s_l1Has.l0_s (k : Nat) (m : Nat) (n1 : Int) (t7 : List Int) (t8 : Int) (t9 : Int) : s_l1Has.l0 k (m + 1) n1 t7 t8 t9 =
 cn (decide (t9 < t8))
 (gd (inb t9 t7.length)
  (cn (decide (getAt (0 : Int) t7 t9.toNat = n1))
   (some true)
   (s_l1Has.l0 k m n1 t7 t8 (IntKind.i64.wrap (t9 + (1 : Int))))))
 (some false) := by kernel_rfl
theorem s_l1Has.f_eq (k : Nat) (l : List Int) (n : Int) : s_l1Has.f k l n =
 s_l1Has.l0 k k n l ((↑l.length : Int)) ((0 : Int)) := (opq_eq _).trans (by kernel_rfl)
abbrev s_l7Crash.s : Sig := ⟨64, [.agg 3, .one], [.chg, .chg, .chg, .val], [.one (.row 9 .str), .one (.row 9 .str), .one (.row 4 .bool), .one (.row 3 (.int .i64))], [.agg [.arg 1, .arg 2, .arg 3]], [.rows 9 .str, .rows 9 .str, .rows 4 .bool], [(0, [(1,false),(2,false),(4,false),(8,true),(9,false),(10,false)])]⟩
noncomputable def s_l7Crash.C (k : Nat) : List (Nat × Ctr) := [(103, s_l1Has.s.ctr (fun x => s_l1Has.f k x.1 x.2))]
noncomputable def s_l7Crash.f (k : Nat) (d_Plate : List ByteArray) (d_Held : List ByteArray) (d_Bad : List Bool) (kept : List Int) : Option ((Unit × Unit × Unit) × List ByteArray × List ByteArray × List Bool) := opq (s_l7Crash.s.run Try.prog (s_l7Crash.C k) k (d_Plate, d_Held, d_Bad, kept))
theorem s_l7Crash.ok (k : Nat) : CtrOk Try.prog 64 (s_l7Crash.s.ctr (fun x => s_l7Crash.f k x.1 x.2.1 x.2.2.1 x.2.2.2)) := sig_ok s_l7Crash.s (.cons (s_l1Has.ok k) .nil) (by kernel_rfl) fun _ => opq_eq _
noncomputable def s_l7Crash.l0 (k : Nat) (m : Nat) (kept1 : List Int) (t9 : Int) (t10 : Int) (h1 : List ByteArray) (h2 : List ByteArray) (h3 : List Bool) : Option ((Unit × Unit × Unit) × List ByteArray × List ByteArray × List Bool) := s_l7Crash.s.head Try.prog (s_l7Crash.C k) k 4 0 [] m [(1, AV.row 3 (Kind.int IntKind.i64) kept1), (2, AV.ptr 4 0 0), (4, AV.ptr 5 0 0), (8, AV.ref 2), (9, AV.int IntKind.i64 t9), (10, AV.int IntKind.i64 t10)] [Root.dead, Root.rows 9 Kind.str h1, Root.rows 9 Kind.str h2, Root.rows 4 Kind.bool h3, Root.box 38 [AV.ref 1, AV.ref 2, AV.ref 3], Root.box 38 [AV.nil 9 Kind.str, AV.nil 9 Kind.str, AV.nil 4 Kind.bool]]
theorem s_l7Crash.l0_z (k : Nat) (kept1 : List Int) (t9 : Int) (t10 : Int) (h1 : List ByteArray) (h2 : List ByteArray) (h3 : List Bool) : s_l7Crash.l0 k 0 kept1 t9 t10 h1 h2 h3 = none := by kernel_rfl
theorem s_l7Crash.l0_s (k : Nat) (m : Nat) (kept1 : List Int) (t9 : Int) (t10 : Int) (h1 : List ByteArray) (h2 : List ByteArray) (h3 : List Bool) : s_l7Crash.l0 k (m + 1) kept1 t9 t10 h1 h2 h3 =
 cn (decide (t10 < t9))
 (gd (inb t10 h2.length)
  ((s_l1Has.f k kept1 t10).bind fun d0 =>
   cn d0
   (gd (inb t10 h1.length)
    (gd (inb t10 h2.length)
     (s_l7Crash.l0 k m kept1 t9 (IntKind.i64.wrap (t10 + (1 : Int))) (h1.set t10.toNat (getAt ByteArray.empty h2 t10.toNat)) (h2.set t10.toNat ByteArray.empty) h3)))
   (gd (inb t10 h2.length)
    (s_l7Crash.l0 k m kept1 t9 (IntKind.i64.wrap (t10 + (1 : Int))) h1 (h2.set t10.toNat ByteArray.empty) h3))))
 (some ((((), (), ()), h1, h2, h3))) := by kernel_rfl
theorem s_l7Crash.f_eq (k : Nat) (d_Plate : List ByteArray) (d_Held : List ByteArray) (d_Bad : List Bool) (kept : List Int) : s_l7Crash.f k d_Plate d_Held d_Bad kept =
 s_l7Crash.l0 k k kept ((↑d_Held.length : Int)) ((0 : Int)) d_Plate d_Held d_Bad := (opq_eq _).trans (by kernel_rfl)
abbrev s_l7Read.s : Sig := ⟨105, [], [.val, .val], [.agg [.row 9 .str, .row 9 .str, .row 4 .bool], .one (.int .i64)], [.one .str, .one .bool], [], []⟩
noncomputable def s_l7Read.C (k : Nat) : List (Nat × Ctr) := []
noncomputable def s_l7Read.f (k : Nat) (d_Plate : List ByteArray) (d_Held : List ByteArray) (d_Bad : List Bool) (at_ : Int) : Option (ByteArray × Bool) := opq (s_l7Read.s.run Try.prog (s_l7Read.C k) k ((d_Plate, d_Held, d_Bad), at_))
theorem s_l7Read.ok (k : Nat) : CtrOk Try.prog 105 (s_l7Read.s.ctr (fun x => s_l7Read.f k x.1.1 x.1.2.1 x.1.2.2 x.2)) := sig_ok s_l7Read.s .nil (by kernel_rfl) fun _ => opq_eq _
theorem s_l7Read.f_eq (k : Nat) (d_Plate : List ByteArray) (d_Held : List ByteArray) (d_Bad : List Bool) (at_ : Int) : s_l7Read.f k d_Plate d_Held d_Bad at_ =
 gd (inb at_ d_Bad.length)
 (cn (getAt false d_Bad at_.toNat)
  (some ((ByteArray.empty, false)))
  (gd (inb at_ d_Held.length)
   (cn (!decide ((getAt ByteArray.empty d_Held at_.toNat).toList = ByteArray.empty.toList))
    (gd (inb at_ d_Held.length)
     (some ((getAt ByteArray.empty d_Held at_.toNat, true))))
    (gd (inb at_ d_Plate.length)
     (some ((getAt ByteArray.empty d_Plate at_.toNat, true))))))) := (opq_eq _).trans (by kernel_rfl)
abbrev s_l5Byte.s : Sig := ⟨135, [], [.val], [.one (.int .i64)], [.one (.int .i64)], [], [(0, [(0,false),(3,false)])]⟩
noncomputable def s_l5Byte.C (k : Nat) : List (Nat × Ctr) := []
noncomputable def s_l5Byte.f (k : Nat) (sum : Int) : Option Int := opq (s_l5Byte.s.run Try.prog (s_l5Byte.C k) k sum)
theorem s_l5Byte.ok (k : Nat) : CtrOk Try.prog 135 (s_l5Byte.s.ctr (fun x => s_l5Byte.f k x)) := sig_ok s_l5Byte.s .nil (by kernel_rfl) fun _ => opq_eq _
noncomputable def s_l5Byte.l0 (k : Nat) (m : Nat) (sum0 : Int) (k3 : Int) : Option Int := s_l5Byte.s.head Try.prog (s_l5Byte.C k) k 1 0 [] m [(0, AV.int IntKind.i64 sum0), (3, AV.int IntKind.i64 k3)] [Root.dead]
theorem s_l5Byte.l0_z (k : Nat) (sum0 : Int) (k3 : Int) : s_l5Byte.l0 k 0 sum0 k3 = none := by kernel_rfl
theorem s_l5Byte.l0_s (k : Nat) (m : Nat) (sum0 : Int) (k3 : Int) : s_l5Byte.l0 k (m + 1) sum0 k3 =
 cn (decide (k3 < (8 : Int)))
 (cn (decide (IntKind.i64.wrap (↑(BitVec.ofInt (64 : Nat) sum0 &&& BitVec.ofInt (64 : Nat) (1 : Int)).toNat : Int) = (1 : Int)))
  (s_l5Byte.l0 k m (IntKind.i64.wrap (↑(BitVec.ofInt (64 : Nat) (sum0.fdiv ((2 : Int) ^ (1 : Nat))) ^^^ BitVec.ofInt (64 : Nat) (2197175160 : Int)).toNat : Int)) (IntKind.i64.wrap (k3 + (1 : Int))))
  (s_l5Byte.l0 k m (sum0.fdiv ((2 : Int) ^ (1 : Nat))) (IntKind.i64.wrap (k3 + (1 : Int)))))
 (some sum0) := by kernel_rfl
theorem s_l5Byte.f_eq (k : Nat) (sum : Int) : s_l5Byte.f k sum =
 s_l5Byte.l0 k k sum ((0 : Int)) := (opq_eq _).trans (by kernel_rfl)
abbrev s_l5On.s : Sig := ⟨127, [], [.val, .val], [.one (.int .i64), .one .str], [.one (.int .i64)], [], [(0, [(0,false),(1,false),(5,false)])]⟩
noncomputable def s_l5On.C (k : Nat) : List (Nat × Ctr) := [(135, s_l5Byte.s.ctr (fun x => s_l5Byte.f k x))]
noncomputable def s_l5On.f (k : Nat) (sum : Int) (s : ByteArray) : Option Int := opq (s_l5On.s.run Try.prog (s_l5On.C k) k (sum, s))
theorem s_l5On.ok (k : Nat) : CtrOk Try.prog 127 (s_l5On.s.ctr (fun x => s_l5On.f k x.1 x.2)) := sig_ok s_l5On.s (.cons (s_l5Byte.ok k) .nil) (by kernel_rfl) fun _ => opq_eq _
noncomputable def s_l5On.l0 (k : Nat) (m : Nat) (sum0 : Int) (s1 : ByteArray) (i5 : Int) : Option Int := s_l5On.s.head Try.prog (s_l5On.C k) k 1 0 [] m [(0, AV.int IntKind.i64 sum0), (1, AV.str s1), (5, AV.int IntKind.i64 i5)] [Root.dead]
theorem s_l5On.l0_z (k : Nat) (sum0 : Int) (s1 : ByteArray) (i5 : Int) : s_l5On.l0 k 0 sum0 s1 i5 = none := by kernel_rfl
theorem s_l5On.l0_s (k : Nat) (m : Nat) (sum0 : Int) (s1 : ByteArray) (i5 : Int) : s_l5On.l0 k (m + 1) sum0 s1 i5 =
 cn (decide (i5 < (↑s1.size : Int)))
 (gd (inb i5 s1.size)
  ((s_l5Byte.f k (IntKind.i64.wrap (↑(BitVec.ofInt (64 : Nat) sum0 ^^^ BitVec.ofInt (64 : Nat) (IntKind.i64.wrap (↑(s1.data.getD i5.toNat (0 : UInt8)).toNat : Int))).toNat : Int))).bind fun d0 =>
   s_l5On.l0 k m d0 s1 (IntKind.i64.wrap (i5 + (1 : Int)))))
 (some (IntKind.i64.wrap (↑(BitVec.ofInt (64 : Nat) sum0 ^^^ BitVec.ofInt (64 : Nat) (4294967295 : Int)).toNat : Int))) := by kernel_rfl
theorem s_l5On.f_eq (k : Nat) (sum : Int) (s : ByteArray) : s_l5On.f k sum s =
 s_l5On.l0 k k (IntKind.i64.wrap (↑(BitVec.ofInt (64 : Nat) sum ^^^ BitVec.ofInt (64 : Nat) (4294967295 : Int)).toNat : Int)) s ((0 : Int)) := (opq_eq _).trans (by kernel_rfl)
abbrev s_l6Bytes.s : Sig := ⟨96, [], [.val, .val], [.one (.int .i64), .one (.int .i64)], [.one .str], [], [(0, [(0,false),(5,true),(6,false)])]⟩
noncomputable def s_l6Bytes.C (k : Nat) : List (Nat × Ctr) := []
noncomputable def s_l6Bytes.f (k : Nat) (n : Int) (many : Int) : Option ByteArray := opq (s_l6Bytes.s.run Try.prog (s_l6Bytes.C k) k (n, many))
theorem s_l6Bytes.ok (k : Nat) : CtrOk Try.prog 96 (s_l6Bytes.s.ctr (fun x => s_l6Bytes.f k x.1 x.2)) := sig_ok s_l6Bytes.s .nil (by kernel_rfl) fun _ => opq_eq _
noncomputable def s_l6Bytes.l0 (k : Nat) (m : Nat) (n0 : Int) (i6 : Int) (h1 : List Int) : Option ByteArray := s_l6Bytes.s.head Try.prog (s_l6Bytes.C k) k 1 0 [] m [(0, AV.int IntKind.i64 n0), (5, AV.ref 1), (6, AV.int IntKind.i64 i6)] [Root.dead, Root.rows 5 (Kind.int IntKind.u8) h1]
theorem s_l6Bytes.l0_z (k : Nat) (n0 : Int) (i6 : Int) (h1 : List Int) : s_l6Bytes.l0 k 0 n0 i6 h1 = none := by kernel_rfl
theorem s_l6Bytes.l0_s (k : Nat) (m : Nat) (n0 : Int) (i6 : Int) (h1 : List Int) : s_l6Bytes.l0 k (m + 1) n0 i6 h1 =
 cn (decide ((0 : Int) ≤ i6))
 (gd (inb i6 h1.length)
  (s_l6Bytes.l0 k m (n0.fdiv ((2 : Int) ^ (8 : Nat))) (IntKind.i64.wrap (i6 - (1 : Int))) (h1.set i6.toNat (IntKind.u8.wrap n0))))
 (some (strOfNums h1)) := by kernel_rfl
theorem s_l6Bytes.f_eq (k : Nat) (n : Int) (many : Int) : s_l6Bytes.f k n many =
 gd (mkOk many many (Try.prog.bytesOf (5 : Nat)))
 (s_l6Bytes.l0 k k n (IntKind.i64.wrap (many - (1 : Int))) (List.replicate many.toNat (0 : Int))) := (opq_eq _).trans (by kernel_rfl)
abbrev s_l6Low.s : Sig := ⟨126, [], [.val], [.one (.int .i64)], [.one .str], [], [(0, [(0,false),(3,false),(4,false)])]⟩
noncomputable def s_l6Low.C (k : Nat) : List (Nat × Ctr) := [(96, s_l6Bytes.s.ctr (fun x => s_l6Bytes.f k x.1 x.2))]
noncomputable def s_l6Low.f (k : Nat) (n : Int) : Option ByteArray := opq (s_l6Low.s.run Try.prog (s_l6Low.C k) k n)
theorem s_l6Low.ok (k : Nat) : CtrOk Try.prog 126 (s_l6Low.s.ctr (fun x => s_l6Low.f k x)) := sig_ok s_l6Low.s (.cons (s_l6Bytes.ok k) .nil) (by kernel_rfl) fun _ => opq_eq _
noncomputable def s_l6Low.l0 (k : Nat) (m : Nat) (n0 : Int) (s3 : ByteArray) (k4 : Int) : Option ByteArray := s_l6Low.s.head Try.prog (s_l6Low.C k) k 1 0 [] m [(0, AV.int IntKind.i64 n0), (3, AV.str s3), (4, AV.int IntKind.i64 k4)] [Root.dead]
theorem s_l6Low.l0_z (k : Nat) (n0 : Int) (s3 : ByteArray) (k4 : Int) : s_l6Low.l0 k 0 n0 s3 k4 = none := by kernel_rfl
theorem s_l6Low.l0_s (k : Nat) (m : Nat) (n0 : Int) (s3 : ByteArray) (k4 : Int) : s_l6Low.l0 k (m + 1) n0 s3 k4 =
 cn (decide (k4 < (4 : Int)))
 (gd (decide ((0 : Int) ≤ IntKind.u64.wrap (IntKind.i64.wrap ((8 : Int) * k4))))
  ((s_l6Bytes.f k (n0.fdiv ((2 : Int) ^ min (IntKind.u64.wrap (IntKind.i64.wrap ((8 : Int) * k4))).toNat (64 : Nat))) (1 : Int)).bind fun d0 =>
   gd (decide (s3.size + ByteArray.size d0 ≤ (140737488355328 : Nat)))
   (s_l6Low.l0 k m n0 (s3 ++ d0) (IntKind.i64.wrap (k4 + (1 : Int))))))
 (some s3) := by kernel_rfl
theorem s_l6Low.f_eq (k : Nat) (n : Int) : s_l6Low.f k n =
 s_l6Low.l0 k k n ByteArray.empty ((0 : Int)) := (opq_eq _).trans (by kernel_rfl)
abbrev s_l6Value.s : Sig := ⟨59, [], [.val], [.one .str], [.one (.int .i64)], [], [(0, [(0,false),(3,false),(4,false)])]⟩
noncomputable def s_l6Value.C (k : Nat) : List (Nat × Ctr) := []
noncomputable def s_l6Value.f (k : Nat) (s : ByteArray) : Option Int := opq (s_l6Value.s.run Try.prog (s_l6Value.C k) k s)
theorem s_l6Value.ok (k : Nat) : CtrOk Try.prog 59 (s_l6Value.s.ctr (fun x => s_l6Value.f k x)) := sig_ok s_l6Value.s .nil (by kernel_rfl) fun _ => opq_eq _
noncomputable def s_l6Value.l0 (k : Nat) (m : Nat) (s0 : ByteArray) (n3 : Int) (i4 : Int) : Option Int := s_l6Value.s.head Try.prog (s_l6Value.C k) k 1 0 [] m [(0, AV.str s0), (3, AV.int IntKind.i64 n3), (4, AV.int IntKind.i64 i4)] [Root.dead]
theorem s_l6Value.l0_z (k : Nat) (s0 : ByteArray) (n3 : Int) (i4 : Int) : s_l6Value.l0 k 0 s0 n3 i4 = none := by kernel_rfl
theorem s_l6Value.l0_s (k : Nat) (m : Nat) (s0 : ByteArray) (n3 : Int) (i4 : Int) : s_l6Value.l0 k (m + 1) s0 n3 i4 =
 cn (decide (i4 < (↑s0.size : Int)))
 (gd (inb i4 s0.size)
  (s_l6Value.l0 k m s0 (IntKind.i64.wrap (↑(BitVec.ofInt (64 : Nat) (IntKind.i64.wrap (n3 * (2 : Int) ^ (8 : Nat))) ||| BitVec.ofInt (64 : Nat) (IntKind.i64.wrap (↑(s0.data.getD i4.toNat (0 : UInt8)).toNat : Int))).toNat : Int)) (IntKind.i64.wrap (i4 + (1 : Int)))))
 (some n3) := by kernel_rfl
theorem s_l6Value.f_eq (k : Nat) (s : ByteArray) : s_l6Value.f k s =
 s_l6Value.l0 k k s ((0 : Int)) ((0 : Int)) := (opq_eq _).trans (by kernel_rfl)
abbrev s_GoodFrame.s : Sig := ⟨138, [], [.val], [.agg [.int .i64, .int .i64, .int .i64, .str]], [.one .bool], [], []⟩
noncomputable def s_GoodFrame.C (k : Nat) : List (Nat × Ctr) := [(79, s_l1In.s.ctr (fun x => s_l1In.f k x.1 x.2.1 x.2.2))]
noncomputable def s_GoodFrame.f (k : Nat) (f_Kind : Int) (f_At : Int) (f_Epoch : Int) (f_Body : ByteArray) : Option Bool := opq (s_GoodFrame.s.run Try.prog (s_GoodFrame.C k) k (f_Kind, f_At, f_Epoch, f_Body))
theorem s_GoodFrame.ok (k : Nat) : CtrOk Try.prog 138 (s_GoodFrame.s.ctr (fun x => s_GoodFrame.f k x.1 x.2.1 x.2.2.1 x.2.2.2)) := sig_ok s_GoodFrame.s (.cons (s_l1In.ok k) .nil) (by kernel_rfl) fun _ => opq_eq _
theorem s_GoodFrame.f_eq (k : Nat) (f_Kind : Int) (f_At : Int) (f_Epoch : Int) (f_Body : ByteArray) : s_GoodFrame.f k f_Kind f_At f_Epoch f_Body =
 (s_l1In.f k f_Kind (1 : Int) (255 : Int)).bind fun d0 =>
 cn d0
 ((s_l1In.f k f_At (0 : Int) (60000 : Int)).bind fun d1 =>
  cn d1
  ((s_l1In.f k f_Epoch (0 : Int) (60000 : Int)).bind fun d2 =>
   cn d2
   (some (decide ((↑f_Body.size : Int) ≤ (16 : Int))))
   (some false))
  (some false))
 (some false) := (opq_eq _).trans (by kernel_rfl)
abbrev s_l6Frame.s : Sig := ⟨101, [], [.val], [.agg [.int .i64, .int .i64, .int .i64, .str]], [.one .str], [], []⟩
noncomputable def s_l6Frame.C (k : Nat) : List (Nat × Ctr) := [(96, s_l6Bytes.s.ctr (fun x => s_l6Bytes.f k x.1 x.2)), (126, s_l6Low.s.ctr (fun x => s_l6Low.f k x)), (127, s_l5On.s.ctr (fun x => s_l5On.f k x.1 x.2))]
noncomputable def s_l6Frame.f (k : Nat) (f_Kind : Int) (f_At : Int) (f_Epoch : Int) (f_Body : ByteArray) : Option ByteArray := opq (s_l6Frame.s.run Try.prog (s_l6Frame.C k) k (f_Kind, f_At, f_Epoch, f_Body))
theorem s_l6Frame.ok (k : Nat) : CtrOk Try.prog 101 (s_l6Frame.s.ctr (fun x => s_l6Frame.f k x.1 x.2.1 x.2.2.1 x.2.2.2)) := sig_ok s_l6Frame.s (.cons (s_l6Bytes.ok k) (.cons (s_l6Low.ok k) (.cons (s_l5On.ok k) .nil))) (by kernel_rfl) fun _ => opq_eq _
theorem s_l6Frame.f_eq (k : Nat) (f_Kind : Int) (f_At : Int) (f_Epoch : Int) (f_Body : ByteArray) : s_l6Frame.f k f_Kind f_At f_Epoch f_Body =
 both
 ((s_l6Bytes.f k f_Kind (1 : Int)).bind fun d0 =>
  both
  ((s_l6Bytes.f k f_At (2 : Int)).bind fun d1 =>
   gd (decide (ByteArray.size d0 + ByteArray.size d1 ≤ (140737488355328 : Nat)))
   (both
    ((s_l6Bytes.f k f_Epoch (2 : Int)).bind fun d2 =>
     gd (decide ((d0 ++ d1).size + ByteArray.size d2 ≤ (140737488355328 : Nat)))
     (both
      ((s_l6Bytes.f k (↑f_Body.size : Int) (1 : Int)).bind fun d3 =>
       gd (decide ((d0 ++ d1 ++ d2).size + ByteArray.size d3 ≤ (140737488355328 : Nat)))
       (gd (decide ((d0 ++ d1 ++ d2 ++ d3).size + f_Body.size ≤ (140737488355328 : Nat)))
        (gd (mkOk (IntKind.i64.wrap (IntKind.i64.wrap ((16 : Int) - (↑f_Body.size : Int)) + (2 : Int))) (IntKind.i64.wrap (IntKind.i64.wrap ((16 : Int) - (↑f_Body.size : Int)) + (2 : Int))) (Try.prog.bytesOf (5 : Nat)))
         (gd (decide ((d0 ++ d1 ++ d2 ++ d3 ++ f_Body).size + (strOfNums (List.replicate (IntKind.i64.wrap (IntKind.i64.wrap ((16 : Int) - (↑f_Body.size : Int)) + (2 : Int))).toNat (0 : Int))).size ≤ (140737488355328 : Nat)))
          ((s_l5On.f k (0 : Int) (d0 ++ d1 ++ d2 ++ d3 ++ f_Body ++ strOfNums (List.replicate (IntKind.i64.wrap (IntKind.i64.wrap ((16 : Int) - (↑f_Body.size : Int)) + (2 : Int))).toNat (0 : Int)))).bind fun d4 =>
           (s_l6Low.f k d4).bind fun d5 =>
           gd (decide ((d0 ++ d1 ++ d2 ++ d3 ++ f_Body ++ strOfNums (List.replicate (IntKind.i64.wrap (IntKind.i64.wrap ((16 : Int) - (↑f_Body.size : Int)) + (2 : Int))).toNat (0 : Int))).size + ByteArray.size d5 ≤ (140737488355328 : Nat)))
           (some (d0 ++ d1 ++ d2 ++ d3 ++ f_Body ++ strOfNums (List.replicate (IntKind.i64.wrap (IntKind.i64.wrap ((16 : Int) - (↑f_Body.size : Int)) + (2 : Int))).toNat (0 : Int)) ++ d5)))))))
      (gd (mkOk (IntKind.i64.wrap (IntKind.i64.wrap ((16 : Int) - (↑f_Body.size : Int)) + (2 : Int))) (IntKind.i64.wrap (IntKind.i64.wrap ((16 : Int) - (↑f_Body.size : Int)) + (2 : Int))) (Try.prog.bytesOf (5 : Nat)))
       (both
        ((s_l6Bytes.f k (↑f_Body.size : Int) (1 : Int)).bind fun d6 =>
         gd (decide ((d0 ++ d1 ++ d2).size + ByteArray.size d6 ≤ (140737488355328 : Nat)))
         (gd (decide ((d0 ++ d1 ++ d2 ++ d6).size + f_Body.size ≤ (140737488355328 : Nat)))
          (gd (decide ((d0 ++ d1 ++ d2 ++ d6 ++ f_Body).size + (strOfNums (List.replicate (IntKind.i64.wrap (IntKind.i64.wrap ((16 : Int) - (↑f_Body.size : Int)) + (2 : Int))).toNat (0 : Int))).size ≤ (140737488355328 : Nat)))
           ((s_l5On.f k (0 : Int) (d0 ++ d1 ++ d2 ++ d6 ++ f_Body ++ strOfNums (List.replicate (IntKind.i64.wrap (IntKind.i64.wrap ((16 : Int) - (↑f_Body.size : Int)) + (2 : Int))).toNat (0 : Int)))).bind fun d7 =>
            (s_l6Low.f k d7).bind fun d8 =>
            gd (decide ((d0 ++ d1 ++ d2 ++ d6 ++ f_Body ++ strOfNums (List.replicate (IntKind.i64.wrap (IntKind.i64.wrap ((16 : Int) - (↑f_Body.size : Int)) + (2 : Int))).toNat (0 : Int))).size + ByteArray.size d8 ≤ (140737488355328 : Nat)))
            (some (d0 ++ d1 ++ d2 ++ d6 ++ f_Body ++ strOfNums (List.replicate (IntKind.i64.wrap (IntKind.i64.wrap ((16 : Int) - (↑f_Body.size : Int)) + (2 : Int))).toNat (0 : Int)) ++ d8))))))
        ((s_l6Bytes.f k (↑f_Body.size : Int) (1 : Int)).bind fun d9 =>
         gd (decide ((d0 ++ d1 ++ d2).size + ByteArray.size d9 ≤ (140737488355328 : Nat)))
         (gd (decide ((d0 ++ d1 ++ d2 ++ d9).size + f_Body.size ≤ (140737488355328 : Nat)))
          (gd (decide ((d0 ++ d1 ++ d2 ++ d9 ++ f_Body).size + (strOfNums (List.replicate (IntKind.i64.wrap (IntKind.i64.wrap ((16 : Int) - (↑f_Body.size : Int)) + (2 : Int))).toNat (0 : Int))).size ≤ (140737488355328 : Nat)))
           ((s_l5On.f k (0 : Int) (d0 ++ d1 ++ d2 ++ d9 ++ f_Body ++ strOfNums (List.replicate (IntKind.i64.wrap (IntKind.i64.wrap ((16 : Int) - (↑f_Body.size : Int)) + (2 : Int))).toNat (0 : Int)))).bind fun d10 =>
            (s_l6Low.f k d10).bind fun d11 =>
            gd (decide ((d0 ++ d1 ++ d2 ++ d9 ++ f_Body ++ strOfNums (List.replicate (IntKind.i64.wrap (IntKind.i64.wrap ((16 : Int) - (↑f_Body.size : Int)) + (2 : Int))).toNat (0 : Int))).size + ByteArray.size d11 ≤ (140737488355328 : Nat)))
            (some (d0 ++ d1 ++ d2 ++ d9 ++ f_Body ++ strOfNums (List.replicate (IntKind.i64.wrap (IntKind.i64.wrap ((16 : Int) - (↑f_Body.size : Int)) + (2 : Int))).toNat (0 : Int)) ++ d11))))))))))
    (gd (mkOk (IntKind.i64.wrap (IntKind.i64.wrap ((16 : Int) - (↑f_Body.size : Int)) + (2 : Int))) (IntKind.i64.wrap (IntKind.i64.wrap ((16 : Int) - (↑f_Body.size : Int)) + (2 : Int))) (Try.prog.bytesOf (5 : Nat)))
     (both
      ((s_l6Bytes.f k f_Epoch (2 : Int)).bind fun d12 =>
       gd (decide ((d0 ++ d1).size + ByteArray.size d12 ≤ (140737488355328 : Nat)))
       (both
        ((s_l6Bytes.f k (↑f_Body.size : Int) (1 : Int)).bind fun d13 =>
         gd (decide ((d0 ++ d1 ++ d12).size + ByteArray.size d13 ≤ (140737488355328 : Nat)))
         (gd (decide ((d0 ++ d1 ++ d12 ++ d13).size + f_Body.size ≤ (140737488355328 : Nat)))
          (gd (decide ((d0 ++ d1 ++ d12 ++ d13 ++ f_Body).size + (strOfNums (List.replicate (IntKind.i64.wrap (IntKind.i64.wrap ((16 : Int) - (↑f_Body.size : Int)) + (2 : Int))).toNat (0 : Int))).size ≤ (140737488355328 : Nat)))
           ((s_l5On.f k (0 : Int) (d0 ++ d1 ++ d12 ++ d13 ++ f_Body ++ strOfNums (List.replicate (IntKind.i64.wrap (IntKind.i64.wrap ((16 : Int) - (↑f_Body.size : Int)) + (2 : Int))).toNat (0 : Int)))).bind fun d14 =>
            (s_l6Low.f k d14).bind fun d15 =>
            gd (decide ((d0 ++ d1 ++ d12 ++ d13 ++ f_Body ++ strOfNums (List.replicate (IntKind.i64.wrap (IntKind.i64.wrap ((16 : Int) - (↑f_Body.size : Int)) + (2 : Int))).toNat (0 : Int))).size + ByteArray.size d15 ≤ (140737488355328 : Nat)))
            (some (d0 ++ d1 ++ d12 ++ d13 ++ f_Body ++ strOfNums (List.replicate (IntKind.i64.wrap (IntKind.i64.wrap ((16 : Int) - (↑f_Body.size : Int)) + (2 : Int))).toNat (0 : Int)) ++ d15))))))
        ((s_l6Bytes.f k (↑f_Body.size : Int) (1 : Int)).bind fun d16 =>
         gd (decide ((d0 ++ d1 ++ d12).size + ByteArray.size d16 ≤ (140737488355328 : Nat)))
         (gd (decide ((d0 ++ d1 ++ d12 ++ d16).size + f_Body.size ≤ (140737488355328 : Nat)))
          (gd (decide ((d0 ++ d1 ++ d12 ++ d16 ++ f_Body).size + (strOfNums (List.replicate (IntKind.i64.wrap (IntKind.i64.wrap ((16 : Int) - (↑f_Body.size : Int)) + (2 : Int))).toNat (0 : Int))).size ≤ (140737488355328 : Nat)))
           ((s_l5On.f k (0 : Int) (d0 ++ d1 ++ d12 ++ d16 ++ f_Body ++ strOfNums (List.replicate (IntKind.i64.wrap (IntKind.i64.wrap ((16 : Int) - (↑f_Body.size : Int)) + (2 : Int))).toNat (0 : Int)))).bind fun d17 =>
            (s_l6Low.f k d17).bind fun d18 =>
            gd (decide ((d0 ++ d1 ++ d12 ++ d16 ++ f_Body ++ strOfNums (List.replicate (IntKind.i64.wrap (IntKind.i64.wrap ((16 : Int) - (↑f_Body.size : Int)) + (2 : Int))).toNat (0 : Int))).size + ByteArray.size d18 ≤ (140737488355328 : Nat)))
            (some (d0 ++ d1 ++ d12 ++ d16 ++ f_Body ++ strOfNums (List.replicate (IntKind.i64.wrap (IntKind.i64.wrap ((16 : Int) - (↑f_Body.size : Int)) + (2 : Int))).toNat (0 : Int)) ++ d18))))))))
      ((s_l6Bytes.f k f_Epoch (2 : Int)).bind fun d19 =>
       gd (decide ((d0 ++ d1).size + ByteArray.size d19 ≤ (140737488355328 : Nat)))
       ((s_l6Bytes.f k (↑f_Body.size : Int) (1 : Int)).bind fun d20 =>
        gd (decide ((d0 ++ d1 ++ d19).size + ByteArray.size d20 ≤ (140737488355328 : Nat)))
        (gd (decide ((d0 ++ d1 ++ d19 ++ d20).size + f_Body.size ≤ (140737488355328 : Nat)))
         (gd (decide ((d0 ++ d1 ++ d19 ++ d20 ++ f_Body).size + (strOfNums (List.replicate (IntKind.i64.wrap (IntKind.i64.wrap ((16 : Int) - (↑f_Body.size : Int)) + (2 : Int))).toNat (0 : Int))).size ≤ (140737488355328 : Nat)))
          ((s_l5On.f k (0 : Int) (d0 ++ d1 ++ d19 ++ d20 ++ f_Body ++ strOfNums (List.replicate (IntKind.i64.wrap (IntKind.i64.wrap ((16 : Int) - (↑f_Body.size : Int)) + (2 : Int))).toNat (0 : Int)))).bind fun d21 =>
           (s_l6Low.f k d21).bind fun d22 =>
           gd (decide ((d0 ++ d1 ++ d19 ++ d20 ++ f_Body ++ strOfNums (List.replicate (IntKind.i64.wrap (IntKind.i64.wrap ((16 : Int) - (↑f_Body.size : Int)) + (2 : Int))).toNat (0 : Int))).size + ByteArray.size d22 ≤ (140737488355328 : Nat)))
           (some (d0 ++ d1 ++ d19 ++ d20 ++ f_Body ++ strOfNums (List.replicate (IntKind.i64.wrap (IntKind.i64.wrap ((16 : Int) - (↑f_Body.size : Int)) + (2 : Int))).toNat (0 : Int)) ++ d22)))))))))))
  (gd (mkOk (IntKind.i64.wrap (IntKind.i64.wrap ((16 : Int) - (↑f_Body.size : Int)) + (2 : Int))) (IntKind.i64.wrap (IntKind.i64.wrap ((16 : Int) - (↑f_Body.size : Int)) + (2 : Int))) (Try.prog.bytesOf (5 : Nat)))
   (both
    ((s_l6Bytes.f k f_At (2 : Int)).bind fun d23 =>
     gd (decide (ByteArray.size d0 + ByteArray.size d23 ≤ (140737488355328 : Nat)))
     (both
      ((s_l6Bytes.f k f_Epoch (2 : Int)).bind fun d24 =>
       gd (decide ((d0 ++ d23).size + ByteArray.size d24 ≤ (140737488355328 : Nat)))
       (both
        ((s_l6Bytes.f k (↑f_Body.size : Int) (1 : Int)).bind fun d25 =>
         gd (decide ((d0 ++ d23 ++ d24).size + ByteArray.size d25 ≤ (140737488355328 : Nat)))
         (gd (decide ((d0 ++ d23 ++ d24 ++ d25).size + f_Body.size ≤ (140737488355328 : Nat)))
          (gd (decide ((d0 ++ d23 ++ d24 ++ d25 ++ f_Body).size + (strOfNums (List.replicate (IntKind.i64.wrap (IntKind.i64.wrap ((16 : Int) - (↑f_Body.size : Int)) + (2 : Int))).toNat (0 : Int))).size ≤ (140737488355328 : Nat)))
           ((s_l5On.f k (0 : Int) (d0 ++ d23 ++ d24 ++ d25 ++ f_Body ++ strOfNums (List.replicate (IntKind.i64.wrap (IntKind.i64.wrap ((16 : Int) - (↑f_Body.size : Int)) + (2 : Int))).toNat (0 : Int)))).bind fun d26 =>
            (s_l6Low.f k d26).bind fun d27 =>
            gd (decide ((d0 ++ d23 ++ d24 ++ d25 ++ f_Body ++ strOfNums (List.replicate (IntKind.i64.wrap (IntKind.i64.wrap ((16 : Int) - (↑f_Body.size : Int)) + (2 : Int))).toNat (0 : Int))).size + ByteArray.size d27 ≤ (140737488355328 : Nat)))
            (some (d0 ++ d23 ++ d24 ++ d25 ++ f_Body ++ strOfNums (List.replicate (IntKind.i64.wrap (IntKind.i64.wrap ((16 : Int) - (↑f_Body.size : Int)) + (2 : Int))).toNat (0 : Int)) ++ d27))))))
        ((s_l6Bytes.f k (↑f_Body.size : Int) (1 : Int)).bind fun d28 =>
         gd (decide ((d0 ++ d23 ++ d24).size + ByteArray.size d28 ≤ (140737488355328 : Nat)))
         (gd (decide ((d0 ++ d23 ++ d24 ++ d28).size + f_Body.size ≤ (140737488355328 : Nat)))
          (gd (decide ((d0 ++ d23 ++ d24 ++ d28 ++ f_Body).size + (strOfNums (List.replicate (IntKind.i64.wrap (IntKind.i64.wrap ((16 : Int) - (↑f_Body.size : Int)) + (2 : Int))).toNat (0 : Int))).size ≤ (140737488355328 : Nat)))
           ((s_l5On.f k (0 : Int) (d0 ++ d23 ++ d24 ++ d28 ++ f_Body ++ strOfNums (List.replicate (IntKind.i64.wrap (IntKind.i64.wrap ((16 : Int) - (↑f_Body.size : Int)) + (2 : Int))).toNat (0 : Int)))).bind fun d29 =>
            (s_l6Low.f k d29).bind fun d30 =>
            gd (decide ((d0 ++ d23 ++ d24 ++ d28 ++ f_Body ++ strOfNums (List.replicate (IntKind.i64.wrap (IntKind.i64.wrap ((16 : Int) - (↑f_Body.size : Int)) + (2 : Int))).toNat (0 : Int))).size + ByteArray.size d30 ≤ (140737488355328 : Nat)))
            (some (d0 ++ d23 ++ d24 ++ d28 ++ f_Body ++ strOfNums (List.replicate (IntKind.i64.wrap (IntKind.i64.wrap ((16 : Int) - (↑f_Body.size : Int)) + (2 : Int))).toNat (0 : Int)) ++ d30))))))))
      ((s_l6Bytes.f k f_Epoch (2 : Int)).bind fun d31 =>
       gd (decide ((d0 ++ d23).size + ByteArray.size d31 ≤ (140737488355328 : Nat)))
       ((s_l6Bytes.f k (↑f_Body.size : Int) (1 : Int)).bind fun d32 =>
        gd (decide ((d0 ++ d23 ++ d31).size + ByteArray.size d32 ≤ (140737488355328 : Nat)))
        (gd (decide ((d0 ++ d23 ++ d31 ++ d32).size + f_Body.size ≤ (140737488355328 : Nat)))
         (gd (decide ((d0 ++ d23 ++ d31 ++ d32 ++ f_Body).size + (strOfNums (List.replicate (IntKind.i64.wrap (IntKind.i64.wrap ((16 : Int) - (↑f_Body.size : Int)) + (2 : Int))).toNat (0 : Int))).size ≤ (140737488355328 : Nat)))
          ((s_l5On.f k (0 : Int) (d0 ++ d23 ++ d31 ++ d32 ++ f_Body ++ strOfNums (List.replicate (IntKind.i64.wrap (IntKind.i64.wrap ((16 : Int) - (↑f_Body.size : Int)) + (2 : Int))).toNat (0 : Int)))).bind fun d33 =>
           (s_l6Low.f k d33).bind fun d34 =>
           gd (decide ((d0 ++ d23 ++ d31 ++ d32 ++ f_Body ++ strOfNums (List.replicate (IntKind.i64.wrap (IntKind.i64.wrap ((16 : Int) - (↑f_Body.size : Int)) + (2 : Int))).toNat (0 : Int))).size + ByteArray.size d34 ≤ (140737488355328 : Nat)))
           (some (d0 ++ d23 ++ d31 ++ d32 ++ f_Body ++ strOfNums (List.replicate (IntKind.i64.wrap (IntKind.i64.wrap ((16 : Int) - (↑f_Body.size : Int)) + (2 : Int))).toNat (0 : Int)) ++ d34)))))))))
    ((s_l6Bytes.f k f_At (2 : Int)).bind fun d35 =>
     gd (decide (ByteArray.size d0 + ByteArray.size d35 ≤ (140737488355328 : Nat)))
     ((s_l6Bytes.f k f_Epoch (2 : Int)).bind fun d36 =>
      gd (decide ((d0 ++ d35).size + ByteArray.size d36 ≤ (140737488355328 : Nat)))
      ((s_l6Bytes.f k (↑f_Body.size : Int) (1 : Int)).bind fun d37 =>
       gd (decide ((d0 ++ d35 ++ d36).size + ByteArray.size d37 ≤ (140737488355328 : Nat)))
       (gd (decide ((d0 ++ d35 ++ d36 ++ d37).size + f_Body.size ≤ (140737488355328 : Nat)))
        (gd (decide ((d0 ++ d35 ++ d36 ++ d37 ++ f_Body).size + (strOfNums (List.replicate (IntKind.i64.wrap (IntKind.i64.wrap ((16 : Int) - (↑f_Body.size : Int)) + (2 : Int))).toNat (0 : Int))).size ≤ (140737488355328 : Nat)))
         ((s_l5On.f k (0 : Int) (d0 ++ d35 ++ d36 ++ d37 ++ f_Body ++ strOfNums (List.replicate (IntKind.i64.wrap (IntKind.i64.wrap ((16 : Int) - (↑f_Body.size : Int)) + (2 : Int))).toNat (0 : Int)))).bind fun d38 =>
          (s_l6Low.f k d38).bind fun d39 =>
          gd (decide ((d0 ++ d35 ++ d36 ++ d37 ++ f_Body ++ strOfNums (List.replicate (IntKind.i64.wrap (IntKind.i64.wrap ((16 : Int) - (↑f_Body.size : Int)) + (2 : Int))).toNat (0 : Int))).size + ByteArray.size d39 ≤ (140737488355328 : Nat)))
          (some (d0 ++ d35 ++ d36 ++ d37 ++ f_Body ++ strOfNums (List.replicate (IntKind.i64.wrap (IntKind.i64.wrap ((16 : Int) - (↑f_Body.size : Int)) + (2 : Int))).toNat (0 : Int)) ++ d39)))))))))))
 (gd (mkOk (IntKind.i64.wrap (IntKind.i64.wrap ((16 : Int) - (↑f_Body.size : Int)) + (2 : Int))) (IntKind.i64.wrap (IntKind.i64.wrap ((16 : Int) - (↑f_Body.size : Int)) + (2 : Int))) (Try.prog.bytesOf (5 : Nat)))
  (both
   ((s_l6Bytes.f k f_Kind (1 : Int)).bind fun d40 =>
    both
    ((s_l6Bytes.f k f_At (2 : Int)).bind fun d41 =>
     gd (decide (ByteArray.size d40 + ByteArray.size d41 ≤ (140737488355328 : Nat)))
     (both
      ((s_l6Bytes.f k f_Epoch (2 : Int)).bind fun d42 =>
       gd (decide ((d40 ++ d41).size + ByteArray.size d42 ≤ (140737488355328 : Nat)))
       (both
        ((s_l6Bytes.f k (↑f_Body.size : Int) (1 : Int)).bind fun d43 =>
         gd (decide ((d40 ++ d41 ++ d42).size + ByteArray.size d43 ≤ (140737488355328 : Nat)))
         (gd (decide ((d40 ++ d41 ++ d42 ++ d43).size + f_Body.size ≤ (140737488355328 : Nat)))
          (gd (decide ((d40 ++ d41 ++ d42 ++ d43 ++ f_Body).size + (strOfNums (List.replicate (IntKind.i64.wrap (IntKind.i64.wrap ((16 : Int) - (↑f_Body.size : Int)) + (2 : Int))).toNat (0 : Int))).size ≤ (140737488355328 : Nat)))
           ((s_l5On.f k (0 : Int) (d40 ++ d41 ++ d42 ++ d43 ++ f_Body ++ strOfNums (List.replicate (IntKind.i64.wrap (IntKind.i64.wrap ((16 : Int) - (↑f_Body.size : Int)) + (2 : Int))).toNat (0 : Int)))).bind fun d44 =>
            (s_l6Low.f k d44).bind fun d45 =>
            gd (decide ((d40 ++ d41 ++ d42 ++ d43 ++ f_Body ++ strOfNums (List.replicate (IntKind.i64.wrap (IntKind.i64.wrap ((16 : Int) - (↑f_Body.size : Int)) + (2 : Int))).toNat (0 : Int))).size + ByteArray.size d45 ≤ (140737488355328 : Nat)))
            (some (d40 ++ d41 ++ d42 ++ d43 ++ f_Body ++ strOfNums (List.replicate (IntKind.i64.wrap (IntKind.i64.wrap ((16 : Int) - (↑f_Body.size : Int)) + (2 : Int))).toNat (0 : Int)) ++ d45))))))
        ((s_l6Bytes.f k (↑f_Body.size : Int) (1 : Int)).bind fun d46 =>
         gd (decide ((d40 ++ d41 ++ d42).size + ByteArray.size d46 ≤ (140737488355328 : Nat)))
         (gd (decide ((d40 ++ d41 ++ d42 ++ d46).size + f_Body.size ≤ (140737488355328 : Nat)))
          (gd (decide ((d40 ++ d41 ++ d42 ++ d46 ++ f_Body).size + (strOfNums (List.replicate (IntKind.i64.wrap (IntKind.i64.wrap ((16 : Int) - (↑f_Body.size : Int)) + (2 : Int))).toNat (0 : Int))).size ≤ (140737488355328 : Nat)))
           ((s_l5On.f k (0 : Int) (d40 ++ d41 ++ d42 ++ d46 ++ f_Body ++ strOfNums (List.replicate (IntKind.i64.wrap (IntKind.i64.wrap ((16 : Int) - (↑f_Body.size : Int)) + (2 : Int))).toNat (0 : Int)))).bind fun d47 =>
            (s_l6Low.f k d47).bind fun d48 =>
            gd (decide ((d40 ++ d41 ++ d42 ++ d46 ++ f_Body ++ strOfNums (List.replicate (IntKind.i64.wrap (IntKind.i64.wrap ((16 : Int) - (↑f_Body.size : Int)) + (2 : Int))).toNat (0 : Int))).size + ByteArray.size d48 ≤ (140737488355328 : Nat)))
            (some (d40 ++ d41 ++ d42 ++ d46 ++ f_Body ++ strOfNums (List.replicate (IntKind.i64.wrap (IntKind.i64.wrap ((16 : Int) - (↑f_Body.size : Int)) + (2 : Int))).toNat (0 : Int)) ++ d48))))))))
      ((s_l6Bytes.f k f_Epoch (2 : Int)).bind fun d49 =>
       gd (decide ((d40 ++ d41).size + ByteArray.size d49 ≤ (140737488355328 : Nat)))
       ((s_l6Bytes.f k (↑f_Body.size : Int) (1 : Int)).bind fun d50 =>
        gd (decide ((d40 ++ d41 ++ d49).size + ByteArray.size d50 ≤ (140737488355328 : Nat)))
        (gd (decide ((d40 ++ d41 ++ d49 ++ d50).size + f_Body.size ≤ (140737488355328 : Nat)))
         (gd (decide ((d40 ++ d41 ++ d49 ++ d50 ++ f_Body).size + (strOfNums (List.replicate (IntKind.i64.wrap (IntKind.i64.wrap ((16 : Int) - (↑f_Body.size : Int)) + (2 : Int))).toNat (0 : Int))).size ≤ (140737488355328 : Nat)))
          ((s_l5On.f k (0 : Int) (d40 ++ d41 ++ d49 ++ d50 ++ f_Body ++ strOfNums (List.replicate (IntKind.i64.wrap (IntKind.i64.wrap ((16 : Int) - (↑f_Body.size : Int)) + (2 : Int))).toNat (0 : Int)))).bind fun d51 =>
           (s_l6Low.f k d51).bind fun d52 =>
           gd (decide ((d40 ++ d41 ++ d49 ++ d50 ++ f_Body ++ strOfNums (List.replicate (IntKind.i64.wrap (IntKind.i64.wrap ((16 : Int) - (↑f_Body.size : Int)) + (2 : Int))).toNat (0 : Int))).size + ByteArray.size d52 ≤ (140737488355328 : Nat)))
           (some (d40 ++ d41 ++ d49 ++ d50 ++ f_Body ++ strOfNums (List.replicate (IntKind.i64.wrap (IntKind.i64.wrap ((16 : Int) - (↑f_Body.size : Int)) + (2 : Int))).toNat (0 : Int)) ++ d52)))))))))
    ((s_l6Bytes.f k f_At (2 : Int)).bind fun d53 =>
     gd (decide (ByteArray.size d40 + ByteArray.size d53 ≤ (140737488355328 : Nat)))
     ((s_l6Bytes.f k f_Epoch (2 : Int)).bind fun d54 =>
      gd (decide ((d40 ++ d53).size + ByteArray.size d54 ≤ (140737488355328 : Nat)))
      ((s_l6Bytes.f k (↑f_Body.size : Int) (1 : Int)).bind fun d55 =>
       gd (decide ((d40 ++ d53 ++ d54).size + ByteArray.size d55 ≤ (140737488355328 : Nat)))
       (gd (decide ((d40 ++ d53 ++ d54 ++ d55).size + f_Body.size ≤ (140737488355328 : Nat)))
        (gd (decide ((d40 ++ d53 ++ d54 ++ d55 ++ f_Body).size + (strOfNums (List.replicate (IntKind.i64.wrap (IntKind.i64.wrap ((16 : Int) - (↑f_Body.size : Int)) + (2 : Int))).toNat (0 : Int))).size ≤ (140737488355328 : Nat)))
         ((s_l5On.f k (0 : Int) (d40 ++ d53 ++ d54 ++ d55 ++ f_Body ++ strOfNums (List.replicate (IntKind.i64.wrap (IntKind.i64.wrap ((16 : Int) - (↑f_Body.size : Int)) + (2 : Int))).toNat (0 : Int)))).bind fun d56 =>
          (s_l6Low.f k d56).bind fun d57 =>
          gd (decide ((d40 ++ d53 ++ d54 ++ d55 ++ f_Body ++ strOfNums (List.replicate (IntKind.i64.wrap (IntKind.i64.wrap ((16 : Int) - (↑f_Body.size : Int)) + (2 : Int))).toNat (0 : Int))).size + ByteArray.size d57 ≤ (140737488355328 : Nat)))
          (some (d40 ++ d53 ++ d54 ++ d55 ++ f_Body ++ strOfNums (List.replicate (IntKind.i64.wrap (IntKind.i64.wrap ((16 : Int) - (↑f_Body.size : Int)) + (2 : Int))).toNat (0 : Int)) ++ d57)))))))))
   ((s_l6Bytes.f k f_Kind (1 : Int)).bind fun d58 =>
    (s_l6Bytes.f k f_At (2 : Int)).bind fun d59 =>
    gd (decide (ByteArray.size d58 + ByteArray.size d59 ≤ (140737488355328 : Nat)))
    ((s_l6Bytes.f k f_Epoch (2 : Int)).bind fun d60 =>
     gd (decide ((d58 ++ d59).size + ByteArray.size d60 ≤ (140737488355328 : Nat)))
     ((s_l6Bytes.f k (↑f_Body.size : Int) (1 : Int)).bind fun d61 =>
      gd (decide ((d58 ++ d59 ++ d60).size + ByteArray.size d61 ≤ (140737488355328 : Nat)))
      (gd (decide ((d58 ++ d59 ++ d60 ++ d61).size + f_Body.size ≤ (140737488355328 : Nat)))
       (gd (decide ((d58 ++ d59 ++ d60 ++ d61 ++ f_Body).size + (strOfNums (List.replicate (IntKind.i64.wrap (IntKind.i64.wrap ((16 : Int) - (↑f_Body.size : Int)) + (2 : Int))).toNat (0 : Int))).size ≤ (140737488355328 : Nat)))
        ((s_l5On.f k (0 : Int) (d58 ++ d59 ++ d60 ++ d61 ++ f_Body ++ strOfNums (List.replicate (IntKind.i64.wrap (IntKind.i64.wrap ((16 : Int) - (↑f_Body.size : Int)) + (2 : Int))).toNat (0 : Int)))).bind fun d62 =>
         (s_l6Low.f k d62).bind fun d63 =>
         gd (decide ((d58 ++ d59 ++ d60 ++ d61 ++ f_Body ++ strOfNums (List.replicate (IntKind.i64.wrap (IntKind.i64.wrap ((16 : Int) - (↑f_Body.size : Int)) + (2 : Int))).toNat (0 : Int))).size + ByteArray.size d63 ≤ (140737488355328 : Nat)))
         (some (d58 ++ d59 ++ d60 ++ d61 ++ f_Body ++ strOfNums (List.replicate (IntKind.i64.wrap (IntKind.i64.wrap ((16 : Int) - (↑f_Body.size : Int)) + (2 : Int))).toNat (0 : Int)) ++ d63)))))))))) := (opq_eq _).trans (by kernel_rfl)
abbrev s_ReadFrame.s : Sig := ⟨129, [], [.val], [.one .str], [.agg [.int .i64, .int .i64, .int .i64, .str], .one (.int .i64), .one .bool], [], []⟩
noncomputable def s_ReadFrame.C (k : Nat) : List (Nat × Ctr) := [(59, s_l6Value.s.ctr (fun x => s_l6Value.f k x)), (101, s_l6Frame.s.ctr (fun x => s_l6Frame.f k x.1 x.2.1 x.2.2.1 x.2.2.2)), (126, s_l6Low.s.ctr (fun x => s_l6Low.f k x)), (127, s_l5On.s.ctr (fun x => s_l5On.f k x.1 x.2)), (138, s_GoodFrame.s.ctr (fun x => s_GoodFrame.f k x.1 x.2.1 x.2.2.1 x.2.2.2))]
noncomputable def s_ReadFrame.f (k : Nat) (s : ByteArray) : Option ((Int × Int × Int × ByteArray) × Int × Bool) := opq (s_ReadFrame.s.run Try.prog (s_ReadFrame.C k) k s)
theorem s_ReadFrame.ok (k : Nat) : CtrOk Try.prog 129 (s_ReadFrame.s.ctr (fun x => s_ReadFrame.f k x)) := sig_ok s_ReadFrame.s (.cons (s_l6Value.ok k) (.cons (s_l6Frame.ok k) (.cons (s_l6Low.ok k) (.cons (s_l5On.ok k) (.cons (s_GoodFrame.ok k) .nil))))) (by kernel_rfl) fun _ => opq_eq _
theorem s_ReadFrame.f_eq (k : Nat) (s : ByteArray) : s_ReadFrame.f k s =
 cn (!decide ((↑s.size : Int) = (28 : Int)))
 (some ((((0 : Int), (0 : Int), (0 : Int), ByteArray.empty), (1 : Int), false)))
 (gd (true && decide ((24 : Int) ≤ (↑s.size : Int)))
  (gd (true && decide ((24 : Int) ≤ (↑s.size : Int)))
   ((s_l5On.f k (0 : Int) (s.extract (0 : Nat) (24 : Nat))).bind fun d0 =>
    (s_l6Low.f k d0).bind fun d1 =>
    cn (!decide (ByteArray.toList d1 = (s.extract (24 : Nat) s.size).toList))
    (some ((((0 : Int), (0 : Int), (0 : Int), ByteArray.empty), (2 : Int), false)))
    (gd (true && decide ((1 : Int) ≤ (↑s.size : Int)))
     (gd (true && (true && decide ((3 : Int) ≤ (↑s.size : Int))))
      (gd (true && (true && decide ((5 : Int) ≤ (↑s.size : Int))))
       (both
        ((s_l6Value.f k (s.extract (0 : Nat) (1 : Nat))).bind fun d2 =>
         both
         ((s_l6Value.f k (s.extract (1 : Nat) (3 : Nat))).bind fun d3 =>
          both
          ((s_l6Value.f k (s.extract (3 : Nat) (5 : Nat))).bind fun d4 =>
           gd (inb (5 : Int) s.size)
           (cn (decide ((16 : Int) < IntKind.i64.wrap (↑(s.data.getD (5 : Nat) (0 : UInt8)).toNat : Int)))
            (some ((((0 : Int), (0 : Int), (0 : Int), ByteArray.empty), (3 : Int), false)))
            (gd (true && (decide ((6 : Int) ≤ IntKind.i64.wrap ((6 : Int) + IntKind.i64.wrap (↑(s.data.getD (5 : Nat) (0 : UInt8)).toNat : Int))) && decide (IntKind.i64.wrap ((6 : Int) + IntKind.i64.wrap (↑(s.data.getD (5 : Nat) (0 : UInt8)).toNat : Int)) ≤ (↑s.size : Int))))
             ((s_GoodFrame.f k d2 d3 d4 (s.extract (6 : Nat) (IntKind.i64.wrap ((6 : Int) + IntKind.i64.wrap (↑(s.data.getD (5 : Nat) (0 : UInt8)).toNat : Int))).toNat)).bind fun d5 =>
              cn (!d5)
              (some ((((0 : Int), (0 : Int), (0 : Int), ByteArray.empty), (3 : Int), false)))
              ((s_l6Frame.f k d2 d3 d4 (s.extract (6 : Nat) (IntKind.i64.wrap ((6 : Int) + IntKind.i64.wrap (↑(s.data.getD (5 : Nat) (0 : UInt8)).toNat : Int))).toNat)).bind fun d6 =>
               cn (!decide (ByteArray.toList d6 = s.toList))
               (some ((((0 : Int), (0 : Int), (0 : Int), ByteArray.empty), (3 : Int), false)))
               (some (((d2, d3, d4, s.extract (6 : Nat) (IntKind.i64.wrap ((6 : Int) + IntKind.i64.wrap (↑(s.data.getD (5 : Nat) (0 : UInt8)).toNat : Int))).toNat), (0 : Int), true))))))))
          ((s_l6Value.f k (s.extract (3 : Nat) (5 : Nat))).bind fun d7 =>
           gd (inb (5 : Int) s.size)
           (cn (decide ((16 : Int) < IntKind.i64.wrap (↑(s.data.getD (5 : Nat) (0 : UInt8)).toNat : Int)))
            (some ((((0 : Int), (0 : Int), (0 : Int), ByteArray.empty), (3 : Int), false)))
            (gd (true && (decide ((6 : Int) ≤ IntKind.i64.wrap ((6 : Int) + IntKind.i64.wrap (↑(s.data.getD (5 : Nat) (0 : UInt8)).toNat : Int))) && decide (IntKind.i64.wrap ((6 : Int) + IntKind.i64.wrap (↑(s.data.getD (5 : Nat) (0 : UInt8)).toNat : Int)) ≤ (↑s.size : Int))))
             ((s_GoodFrame.f k d2 d3 d7 (s.extract (6 : Nat) (IntKind.i64.wrap ((6 : Int) + IntKind.i64.wrap (↑(s.data.getD (5 : Nat) (0 : UInt8)).toNat : Int))).toNat)).bind fun d8 =>
              cn (!d8)
              (some ((((0 : Int), (0 : Int), (0 : Int), ByteArray.empty), (3 : Int), false)))
              ((s_l6Frame.f k d2 d3 d7 (s.extract (6 : Nat) (IntKind.i64.wrap ((6 : Int) + IntKind.i64.wrap (↑(s.data.getD (5 : Nat) (0 : UInt8)).toNat : Int))).toNat)).bind fun d9 =>
               cn (!decide (ByteArray.toList d9 = s.toList))
               (some ((((0 : Int), (0 : Int), (0 : Int), ByteArray.empty), (3 : Int), false)))
               (some (((d2, d3, d7, s.extract (6 : Nat) (IntKind.i64.wrap ((6 : Int) + IntKind.i64.wrap (↑(s.data.getD (5 : Nat) (0 : UInt8)).toNat : Int))).toNat), (0 : Int), true)))))))))
         ((s_l6Value.f k (s.extract (1 : Nat) (3 : Nat))).bind fun d10 =>
          (s_l6Value.f k (s.extract (3 : Nat) (5 : Nat))).bind fun d11 =>
          gd (inb (5 : Int) s.size)
          (cn (decide ((16 : Int) < IntKind.i64.wrap (↑(s.data.getD (5 : Nat) (0 : UInt8)).toNat : Int)))
           (some ((((0 : Int), (0 : Int), (0 : Int), ByteArray.empty), (3 : Int), false)))
           (gd (true && (decide ((6 : Int) ≤ IntKind.i64.wrap ((6 : Int) + IntKind.i64.wrap (↑(s.data.getD (5 : Nat) (0 : UInt8)).toNat : Int))) && decide (IntKind.i64.wrap ((6 : Int) + IntKind.i64.wrap (↑(s.data.getD (5 : Nat) (0 : UInt8)).toNat : Int)) ≤ (↑s.size : Int))))
            ((s_GoodFrame.f k d2 d10 d11 (s.extract (6 : Nat) (IntKind.i64.wrap ((6 : Int) + IntKind.i64.wrap (↑(s.data.getD (5 : Nat) (0 : UInt8)).toNat : Int))).toNat)).bind fun d12 =>
             cn (!d12)
             (some ((((0 : Int), (0 : Int), (0 : Int), ByteArray.empty), (3 : Int), false)))
             ((s_l6Frame.f k d2 d10 d11 (s.extract (6 : Nat) (IntKind.i64.wrap ((6 : Int) + IntKind.i64.wrap (↑(s.data.getD (5 : Nat) (0 : UInt8)).toNat : Int))).toNat)).bind fun d13 =>
              cn (!decide (ByteArray.toList d13 = s.toList))
              (some ((((0 : Int), (0 : Int), (0 : Int), ByteArray.empty), (3 : Int), false)))
              (some (((d2, d10, d11, s.extract (6 : Nat) (IntKind.i64.wrap ((6 : Int) + IntKind.i64.wrap (↑(s.data.getD (5 : Nat) (0 : UInt8)).toNat : Int))).toNat), (0 : Int), true)))))))))
        ((s_l6Value.f k (s.extract (0 : Nat) (1 : Nat))).bind fun d14 =>
         (s_l6Value.f k (s.extract (1 : Nat) (3 : Nat))).bind fun d15 =>
         (s_l6Value.f k (s.extract (3 : Nat) (5 : Nat))).bind fun d16 =>
         gd (inb (5 : Int) s.size)
         (cn (decide ((16 : Int) < IntKind.i64.wrap (↑(s.data.getD (5 : Nat) (0 : UInt8)).toNat : Int)))
          (some ((((0 : Int), (0 : Int), (0 : Int), ByteArray.empty), (3 : Int), false)))
          (gd (true && (decide ((6 : Int) ≤ IntKind.i64.wrap ((6 : Int) + IntKind.i64.wrap (↑(s.data.getD (5 : Nat) (0 : UInt8)).toNat : Int))) && decide (IntKind.i64.wrap ((6 : Int) + IntKind.i64.wrap (↑(s.data.getD (5 : Nat) (0 : UInt8)).toNat : Int)) ≤ (↑s.size : Int))))
           ((s_GoodFrame.f k d14 d15 d16 (s.extract (6 : Nat) (IntKind.i64.wrap ((6 : Int) + IntKind.i64.wrap (↑(s.data.getD (5 : Nat) (0 : UInt8)).toNat : Int))).toNat)).bind fun d17 =>
            cn (!d17)
            (some ((((0 : Int), (0 : Int), (0 : Int), ByteArray.empty), (3 : Int), false)))
            ((s_l6Frame.f k d14 d15 d16 (s.extract (6 : Nat) (IntKind.i64.wrap ((6 : Int) + IntKind.i64.wrap (↑(s.data.getD (5 : Nat) (0 : UInt8)).toNat : Int))).toNat)).bind fun d18 =>
             cn (!decide (ByteArray.toList d18 = s.toList))
             (some ((((0 : Int), (0 : Int), (0 : Int), ByteArray.empty), (3 : Int), false)))
             (some (((d14, d15, d16, s.extract (6 : Nat) (IntKind.i64.wrap ((6 : Int) + IntKind.i64.wrap (↑(s.data.getD (5 : Nat) (0 : UInt8)).toNat : Int))).toNat), (0 : Int), true))))))))))))))) := (opq_eq _).trans (by kernel_rfl)
abbrev s_CheckFrame.s : Sig := ⟨106, [], [.val, .val, .val, .val], [.one .str, .one (.int .i64), .one (.int .i64), .one (.int .i64)], [.agg [.int .i64, .int .i64, .int .i64, .str], .one (.int .i64), .one .bool], [], []⟩
noncomputable def s_CheckFrame.C (k : Nat) : List (Nat × Ctr) := [(129, s_ReadFrame.s.ctr (fun x => s_ReadFrame.f k x))]
noncomputable def s_CheckFrame.f (k : Nat) (s : ByteArray) (kind : Int) (at_ : Int) (least : Int) : Option ((Int × Int × Int × ByteArray) × Int × Bool) := opq (s_CheckFrame.s.run Try.prog (s_CheckFrame.C k) k (s, kind, at_, least))
theorem s_CheckFrame.ok (k : Nat) : CtrOk Try.prog 106 (s_CheckFrame.s.ctr (fun x => s_CheckFrame.f k x.1 x.2.1 x.2.2.1 x.2.2.2)) := sig_ok s_CheckFrame.s (.cons (s_ReadFrame.ok k) .nil) (by kernel_rfl) fun _ => opq_eq _
theorem s_CheckFrame.f_eq (k : Nat) (s : ByteArray) (kind : Int) (at_ : Int) (least : Int) : s_CheckFrame.f k s kind at_ least =
 (s_ReadFrame.f k s).bind fun d0 =>
 cn (!d0.snd.snd)
 (some ((((0 : Int), (0 : Int), (0 : Int), ByteArray.empty), d0.snd.fst, false)))
 (cn (!decide (d0.fst.fst = kind))
  (some ((((0 : Int), (0 : Int), (0 : Int), ByteArray.empty), (3 : Int), false)))
  (cn (!decide (d0.fst.snd.fst = at_))
   (some ((((0 : Int), (0 : Int), (0 : Int), ByteArray.empty), (4 : Int), false)))
   (cn (decide (d0.fst.snd.snd.fst < least))
    (some ((((0 : Int), (0 : Int), (0 : Int), ByteArray.empty), (5 : Int), false)))
    (some (((d0.fst.fst, d0.fst.snd.fst, d0.fst.snd.snd.fst, d0.fst.snd.snd.snd), (0 : Int), true)))))) := (opq_eq _).trans (by kernel_rfl)
abbrev s_l15Half.s : Sig := ⟨102, [], [.val], [.one (.int .i64)], [.one (.int .i64)], [], []⟩
noncomputable def s_l15Half.C (k : Nat) : List (Nat × Ctr) := []
noncomputable def s_l15Half.f (k : Nat) (epoch : Int) : Option Int := opq (s_l15Half.s.run Try.prog (s_l15Half.C k) k epoch)
theorem s_l15Half.ok (k : Nat) : CtrOk Try.prog 102 (s_l15Half.s.ctr (fun x => s_l15Half.f k x)) := sig_ok s_l15Half.s .nil (by kernel_rfl) fun _ => opq_eq _
theorem s_l15Half.f_eq (k : Nat) (epoch : Int) : s_l15Half.f k epoch =
 some (IntKind.i64.wrap ((1 : Int) + IntKind.i64.wrap ((2 : Int) * epoch.tmod (2 : Int)))) := (opq_eq _).trans (by kernel_rfl)
abbrev s_StateFrom.s : Sig := ⟨19, [], [.val], [.one (.row 9 .str)], [.one (.own 3 (.int .i64)), .one .bool], [], [(0, [(4,false),(5,true),(6,false)])]⟩
noncomputable def s_StateFrom.C (k : Nat) : List (Nat × Ctr) := [(59, s_l6Value.s.ctr (fun x => s_l6Value.f k x))]
noncomputable def s_StateFrom.f (k : Nat) (l : List ByteArray) : Option (List Int × Bool) := opq (s_StateFrom.s.run Try.prog (s_StateFrom.C k) k l)
theorem s_StateFrom.ok (k : Nat) : CtrOk Try.prog 19 (s_StateFrom.s.ctr (fun x => s_StateFrom.f k x)) := sig_ok s_StateFrom.s (.cons (s_l6Value.ok k) .nil) (by kernel_rfl) fun _ => opq_eq _
noncomputable def s_StateFrom.l0 (k : Nat) (m : Nat) (s4 : ByteArray) (k6 : Int) (h1 : List Int) : Option (List Int × Bool) := s_StateFrom.s.head Try.prog (s_StateFrom.C k) k 1 0 [] m [(4, AV.str s4), (5, AV.ref 1), (6, AV.int IntKind.i64 k6)] [Root.dead, Root.rows 3 (Kind.int IntKind.i64) h1]
theorem s_StateFrom.l0_z (k : Nat) (s4 : ByteArray) (k6 : Int) (h1 : List Int) : s_StateFrom.l0 k 0 s4 k6 h1 = none := by kernel_rfl
theorem s_StateFrom.l0_s (k : Nat) (m : Nat) (s4 : ByteArray) (k6 : Int) (h1 : List Int) : s_StateFrom.l0 k (m + 1) s4 k6 h1 =
 cn (decide (k6 < (6 : Int)))
 (gd (decide ((0 : Int) ≤ IntKind.i64.wrap ((2 : Int) * k6)) && (decide (IntKind.i64.wrap ((2 : Int) * k6) ≤ IntKind.i64.wrap (IntKind.i64.wrap ((2 : Int) * k6) + (2 : Int))) && decide (IntKind.i64.wrap (IntKind.i64.wrap ((2 : Int) * k6) + (2 : Int)) ≤ (↑s4.size : Int))))
  ((s_l6Value.f k (s4.extract (IntKind.i64.wrap ((2 : Int) * k6)).toNat (IntKind.i64.wrap (IntKind.i64.wrap ((2 : Int) * k6) + (2 : Int))).toNat)).bind fun d0 =>
   gd (appOk (h1.length + [d0].length) (Try.prog.bytesOf (3 : Nat)))
   (s_StateFrom.l0 k m s4 (IntKind.i64.wrap (k6 + (1 : Int))) (h1 ++ [d0]))))
 (some ((h1, true))) := by kernel_rfl
theorem s_StateFrom.f_eq (k : Nat) (l : List ByteArray) : s_StateFrom.f k l =
 cn (!decide ((↑l.length : Int) = (2 : Int)))
 (some (([], false)))
 (gd (inb (0 : Int) l.length)
  (cn (!decide ((↑(getAt ByteArray.empty l (0 : Nat)).size : Int) = (6 : Int)))
   (some (([], false)))
   (gd (inb (1 : Int) l.length)
    (cn (!decide ((↑(getAt ByteArray.empty l (1 : Nat)).size : Int) = (6 : Int)))
     (some (([], false)))
     (gd (inb (0 : Int) l.length)
      (gd (inb (1 : Int) l.length)
       (gd (decide ((getAt ByteArray.empty l (0 : Nat)).size + (getAt ByteArray.empty l (1 : Nat)).size ≤ (140737488355328 : Nat)))
        (s_StateFrom.l0 k k (getAt ByteArray.empty l (0 : Nat) ++ getAt ByteArray.empty l (1 : Nat)) ((0 : Int)) ([]))))))))) := (opq_eq _).trans (by kernel_rfl)
abbrev s_l15Recover.s : Sig := ⟨72, [], [.val], [.agg [.row 9 .str, .row 9 .str, .row 4 .bool]], [.one (.own 3 (.int .i64)), .one (.int .i64)], [], [(0, [(1,false),(6,false),(9,false),(10,true),(11,false)])]⟩
noncomputable def s_l15Recover.C (k : Nat) : List (Nat × Ctr) := [(19, s_StateFrom.s.ctr (fun x => s_StateFrom.f k x)), (102, s_l15Half.s.ctr (fun x => s_l15Half.f k x)), (105, s_l7Read.s.ctr (fun x => s_l7Read.f k x.1.1 x.1.2.1 x.1.2.2 x.2)), (106, s_CheckFrame.s.ctr (fun x => s_CheckFrame.f k x.1 x.2.1 x.2.2.1 x.2.2.2))]
noncomputable def s_l15Recover.f (k : Nat) (d_Plate : List ByteArray) (d_Held : List ByteArray) (d_Bad : List Bool) : Option (List Int × Int) := opq (s_l15Recover.s.run Try.prog (s_l15Recover.C k) k (d_Plate, d_Held, d_Bad))
theorem s_l15Recover.ok (k : Nat) : CtrOk Try.prog 72 (s_l15Recover.s.ctr (fun x => s_l15Recover.f k x.1 x.2.1 x.2.2)) := sig_ok s_l15Recover.s (.cons (s_StateFrom.ok k) (.cons (s_l15Half.ok k) (.cons (s_l7Read.ok k) (.cons (s_CheckFrame.ok k) .nil)))) (by kernel_rfl) fun _ => opq_eq _
noncomputable def s_l15Recover.l0 (k : Nat) (m : Nat) (at9 : Int) (k11 : Int) (h1 : List ByteArray) (h1_ : List ByteArray) (h1__ : List Bool) (h2 : Int) (h2_ : Int) (h2__ : Int) (h2___ : ByteArray) (h3 : List ByteArray) : Option (List Int × Int) := s_l15Recover.s.head Try.prog (s_l15Recover.C k) k 1 0 [] m [(1, AV.ptr 1 0 0), (6, AV.ptr 2 0 0), (9, AV.int IntKind.i64 at9), (10, AV.ref 3), (11, AV.int IntKind.i64 k11)] [Root.dead, Root.box 38 [AV.row 9 Kind.str h1, AV.row 9 Kind.str h1_, AV.row 4 Kind.bool h1__], Root.box 98 [AV.int IntKind.i64 h2, AV.int IntKind.i64 h2_, AV.int IntKind.i64 h2__, AV.str h2___], Root.rows 9 Kind.str h3]
theorem s_l15Recover.l0_z (k : Nat) (at9 : Int) (k11 : Int) (h1 : List ByteArray) (h1_ : List ByteArray) (h1__ : List Bool) (h2 : Int) (h2_ : Int) (h2__ : Int) (h2___ : ByteArray) (h3 : List ByteArray) : s_l15Recover.l0 k 0 at9 k11 h1 h1_ h1__ h2 h2_ h2__ h2___ h3 = none := by kernel_rfl
theorem s_l15Recover.l0_s (k : Nat) (m : Nat) (at9 : Int) (k11 : Int) (h1 : List ByteArray) (h1_ : List ByteArray) (h1__ : List Bool) (h2 : Int) (h2_ : Int) (h2__ : Int) (h2___ : ByteArray) (h3 : List ByteArray) : s_l15Recover.l0 k (m + 1) at9 k11 h1 h1_ h1__ h2 h2_ h2__ h2___ h3 =
 cn (decide (k11 < (2 : Int)))
 ((s_l7Read.f k h1 h1_ h1__ (IntKind.i64.wrap (at9 + k11))).bind fun d4 =>
  (s_CheckFrame.f k d4.fst (3 : Int) (IntKind.i64.wrap (at9 + k11)) h2__).bind fun d5 =>
  cn (!d4.snd)
  (some (([], (-1 : Int))))
  (cn (!d5.snd.snd)
   (some (([], (-1 : Int))))
   (cn (!decide (d5.fst.snd.snd.fst = h2__))
    (some (([], (-1 : Int))))
    (gd (appOk (h3.length + [d5.fst.snd.snd.snd].length) (Try.prog.bytesOf (9 : Nat)))
     (s_l15Recover.l0 k m at9 (IntKind.i64.wrap (k11 + (1 : Int))) h1 h1_ h1__ h2 h2_ h2__ h2___ (h3 ++ [d5.fst.snd.snd.snd]))))))
 ((s_StateFrom.f k h3).bind fun d3 =>
  cn (!d3.snd)
  (some (([], (-1 : Int))))
  (some ((d3.fst, h2__)))) := by kernel_rfl
theorem s_l15Recover.f_eq (k : Nat) (d_Plate : List ByteArray) (d_Held : List ByteArray) (d_Bad : List Bool) : s_l15Recover.f k d_Plate d_Held d_Bad =
 (s_l7Read.f k d_Plate d_Held d_Bad (0 : Int)).bind fun d0 =>
 (s_CheckFrame.f k d0.fst (4 : Int) (0 : Int) (0 : Int)).bind fun d1 =>
 cn (!d0.snd)
 (some (([], (-1 : Int))))
 (cn (!d1.snd.snd)
  (some (([], (-1 : Int))))
  ((s_l15Half.f k d1.fst.snd.snd.fst).bind fun d2 =>
   s_l15Recover.l0 k k d2 ((0 : Int)) d_Plate d_Held d_Bad d1.fst.fst d1.fst.snd.fst d1.fst.snd.snd.fst d1.fst.snd.snd.snd ([]))) := (opq_eq _).trans (by kernel_rfl)
abbrev s_l1Same.s : Sig := ⟨81, [], [.val, .val], [.one (.row 3 (.int .i64)), .one (.row 3 (.int .i64))], [.one .bool], [], [(0, [(0,false),(1,false),(12,false),(13,false)])]⟩
noncomputable def s_l1Same.C (k : Nat) : List (Nat × Ctr) := []
noncomputable def s_l1Same.f (k : Nat) (a : List Int) (b : List Int) : Option Bool := opq (s_l1Same.s.run Try.prog (s_l1Same.C k) k (a, b))
theorem s_l1Same.ok (k : Nat) : CtrOk Try.prog 81 (s_l1Same.s.ctr (fun x => s_l1Same.f k x.1 x.2)) := sig_ok s_l1Same.s .nil (by kernel_rfl) fun _ => opq_eq _
noncomputable def s_l1Same.l0 (k : Nat) (m : Nat) (a0 : List Int) (b1 : List Int) (t12 : Int) (t13 : Int) : Option Bool := s_l1Same.s.head Try.prog (s_l1Same.C k) k 1 0 [] m [(0, AV.row 3 (Kind.int IntKind.i64) a0), (1, AV.row 3 (Kind.int IntKind.i64) b1), (12, AV.int IntKind.i64 t12), (13, AV.int IntKind.i64 t13)] [Root.dead]
theorem s_l1Same.l0_z (k : Nat) (a0 : List Int) (b1 : List Int) (t12 : Int) (t13 : Int) : s_l1Same.l0 k 0 a0 b1 t12 t13 = none := by kernel_rfl
theorem s_l1Same.l0_s (k : Nat) (m : Nat) (a0 : List Int) (b1 : List Int) (t12 : Int) (t13 : Int) : s_l1Same.l0 k (m + 1) a0 b1 t12 t13 =
 cn (decide (t13 < t12))
 (gd (inb t13 a0.length)
  (gd (inb t13 b1.length)
   (cn (!decide (getAt (0 : Int) a0 t13.toNat = getAt (0 : Int) b1 t13.toNat))
    (some false)
    (s_l1Same.l0 k m a0 b1 t12 (IntKind.i64.wrap (t13 + (1 : Int)))))))
 (some true) := by kernel_rfl
theorem s_l1Same.f_eq (k : Nat) (a : List Int) (b : List Int) : s_l1Same.f k a b =
 cn (!decide ((↑a.length : Int) = (↑b.length : Int)))
 (some false)
 (s_l1Same.l0 k k a b ((↑a.length : Int)) ((0 : Int))) := (opq_eq _).trans (by kernel_rfl)
abbrev s_GoodJournal.s : Sig := ⟨35, [], [.val], [.agg [.row 9 .str, .row 9 .str, .row 4 .bool, .int .i64, .int .i64, .row 3 (.int .i64), .row 3 (.int .i64)]], [.one .bool], [], [(0, [(1,false),(54,true),(55,false),(56,false)])]⟩
noncomputable def s_GoodJournal.C (k : Nat) : List (Nat × Ctr) := [(54, s_l15State.s.ctr (fun x => s_l15State.f k x)), (64, s_l7Crash.s.ctr (fun x => s_l7Crash.f k x.1 x.2.1 x.2.2.1 x.2.2.2)), (71, s_GoodDisk.s.ctr (fun x => s_GoodDisk.f k x.1 x.2.1 x.2.2)), (72, s_l15Recover.s.ctr (fun x => s_l15Recover.f k x.1 x.2.1 x.2.2)), (79, s_l1In.s.ctr (fun x => s_l1In.f k x.1 x.2.1 x.2.2)), (80, s_l7Own.s.ctr (fun x => s_l7Own.f k x.1 x.2.1 x.2.2)), (81, s_l1Same.s.ctr (fun x => s_l1Same.f k x.1 x.2))]
noncomputable def s_GoodJournal.f (k : Nat) (j_Disk_Plate : List ByteArray) (j_Disk_Held : List ByteArray) (j_Disk_Bad : List Bool) (j_Epoch : Int) (j_Phase : Int) (j_Acked : List Int) (j_Coming : List Int) : Option Bool := opq (s_GoodJournal.s.run Try.prog (s_GoodJournal.C k) k (j_Disk_Plate, j_Disk_Held, j_Disk_Bad, j_Epoch, j_Phase, j_Acked, j_Coming))
theorem s_GoodJournal.ok (k : Nat) : CtrOk Try.prog 35 (s_GoodJournal.s.ctr (fun x => s_GoodJournal.f k x.1 x.2.1 x.2.2.1 x.2.2.2.1 x.2.2.2.2.1 x.2.2.2.2.2.1 x.2.2.2.2.2.2)) := sig_ok s_GoodJournal.s (.cons (s_l15State.ok k) (.cons (s_l7Crash.ok k) (.cons (s_GoodDisk.ok k) (.cons (s_l15Recover.ok k) (.cons (s_l1In.ok k) (.cons (s_l7Own.ok k) (.cons (s_l1Same.ok k) .nil))))))) (by kernel_rfl) fun _ => opq_eq _
noncomputable def s_GoodJournal.l0 (k : Nat) (m : Nat) (t54 : List Bool) (t55 : Int) (t56 : Int) (h1 : List ByteArray) (h1_ : List ByteArray) (h1__ : List Bool) (h1___ : Int) (h1____ : Int) (h1_____ : List Int) (h1______ : List Int) : Option Bool := s_GoodJournal.s.head Try.prog (s_GoodJournal.C k) k 1 0 [] m [(1, AV.ptr 1 0 0), (54, AV.row 4 Kind.bool t54), (55, AV.int IntKind.i64 t55), (56, AV.int IntKind.i64 t56)] [Root.dead, Root.box 40 [AV.row 9 Kind.str h1, AV.row 9 Kind.str h1_, AV.row 4 Kind.bool h1__, AV.int IntKind.i64 h1___, AV.int IntKind.i64 h1____, AV.row 3 (Kind.int IntKind.i64) h1_____, AV.row 3 (Kind.int IntKind.i64) h1______]]
theorem s_GoodJournal.l0_z (k : Nat) (t54 : List Bool) (t55 : Int) (t56 : Int) (h1 : List ByteArray) (h1_ : List ByteArray) (h1__ : List Bool) (h1___ : Int) (h1____ : Int) (h1_____ : List Int) (h1______ : List Int) : s_GoodJournal.l0 k 0 t54 t55 t56 h1 h1_ h1__ h1___ h1____ h1_____ h1______ = none := by kernel_rfl
theorem s_GoodJournal.l0_s (k : Nat) (m : Nat) (t54 : List Bool) (t55 : Int) (t56 : Int) (h1 : List ByteArray) (h1_ : List ByteArray) (h1__ : List Bool) (h1___ : Int) (h1____ : Int) (h1_____ : List Int) (h1______ : List Int) : s_GoodJournal.l0 k (m + 1) t54 t55 t56 h1 h1_ h1__ h1___ h1____ h1_____ h1______ =
 cn (decide (t56 < t55))
 (gd (inb t56 t54.length)
  (cn (getAt false t54 t56.toNat)
   (some false)
   (s_GoodJournal.l0 k m t54 t55 (IntKind.i64.wrap (t56 + (1 : Int))) h1 h1_ h1__ h1___ h1____ h1_____ h1______)))
 ((s_l7Own.f k h1 h1_ h1__).bind fun d5 =>
  (s_l7Crash.f k d5.fst d5.snd.fst d5.snd.snd []).bind fun d6 =>
  (s_l15Recover.f k d6.snd.fst d6.snd.snd.fst d6.snd.snd.snd).bind fun d7 =>
  cn (decide (d7.snd = h1___))
  (cn (decide ((0 : Int) ≤ d7.snd))
   ((s_l1Same.f k d7.fst h1_____).bind fun d8 =>
    some d8)
   (some false))
  (some false)) := by kernel_rfl
theorem s_GoodJournal.f_eq (k : Nat) (j_Disk_Plate : List ByteArray) (j_Disk_Held : List ByteArray) (j_Disk_Bad : List Bool) (j_Epoch : Int) (j_Phase : Int) (j_Acked : List Int) (j_Coming : List Int) : s_GoodJournal.f k j_Disk_Plate j_Disk_Held j_Disk_Bad j_Epoch j_Phase j_Acked j_Coming =
 (s_GoodDisk.f k j_Disk_Plate j_Disk_Held j_Disk_Bad).bind fun d0 =>
 cn (!d0)
 (some false)
 (cn (!decide ((↑j_Disk_Plate.length : Int) = (5 : Int)))
  (some false)
  ((s_l15State.f k j_Acked).bind fun d1 =>
   cn (!d1)
   (some false)
   ((s_l1In.f k j_Phase (0 : Int) (3 : Int)).bind fun d2 =>
    cn (!d2)
    (some false)
    (cn (decide (j_Phase = (0 : Int)))
     (cn (decide ((0 : Int) < (↑j_Coming.length : Int)))
      (some false)
      (cn (decide ((0 : Int) < j_Phase))
       ((s_l15State.f k j_Coming).bind fun d4 =>
        cn (!d4)
        (some false)
        (s_GoodJournal.l0 k k j_Disk_Bad ((↑j_Disk_Bad.length : Int)) ((0 : Int)) j_Disk_Plate j_Disk_Held j_Disk_Bad j_Epoch j_Phase j_Acked j_Coming))
       (s_GoodJournal.l0 k k j_Disk_Bad ((↑j_Disk_Bad.length : Int)) ((0 : Int)) j_Disk_Plate j_Disk_Held j_Disk_Bad j_Epoch j_Phase j_Acked j_Coming)))
     (cn (decide ((0 : Int) < j_Phase))
      ((s_l15State.f k j_Coming).bind fun d3 =>
       cn (!d3)
       (some false)
       (s_GoodJournal.l0 k k j_Disk_Bad ((↑j_Disk_Bad.length : Int)) ((0 : Int)) j_Disk_Plate j_Disk_Held j_Disk_Bad j_Epoch j_Phase j_Acked j_Coming))
      (s_GoodJournal.l0 k k j_Disk_Bad ((↑j_Disk_Bad.length : Int)) ((0 : Int)) j_Disk_Plate j_Disk_Held j_Disk_Bad j_Epoch j_Phase j_Acked j_Coming)))))) := (opq_eq _).trans (by kernel_rfl)
abbrev i_within.s : Sig := ⟨83, [], [.val, .val, .val], [.one (.int .i64), .one (.int .i64), .one (.int .i64)], [.one .bool], [], []⟩
noncomputable def i_within.C (k : Nat) : List (Nat × Ctr) := []
noncomputable def i_within.f (k : Nat) (n : Int) (low : Int) (high : Int) : Option Bool := opq (i_within.s.run Try.prog (i_within.C k) k (n, low, high))
theorem i_within.ok (k : Nat) : CtrOk Try.prog 83 (i_within.s.ctr (fun x => i_within.f k x.1 x.2.1 x.2.2)) := sig_ok i_within.s .nil (by kernel_rfl) fun _ => opq_eq _
theorem i_within.f_eq (k : Nat) (n : Int) (low : Int) (high : Int) : i_within.f k n low high =
 cn (decide (low ≤ n))
 (some (decide (n ≤ high)))
 (some false) := (opq_eq _).trans (by kernel_rfl)
abbrev i_GoodDisk.s : Sig := ⟨74, [], [.val], [.agg [.row 9 .str, .row 9 .str, .row 4 .bool]], [.one .bool], [], [(0, [(1,false),(27,true),(28,false),(29,false)])]⟩
noncomputable def i_GoodDisk.C (k : Nat) : List (Nat × Ctr) := [(83, i_within.s.ctr (fun x => i_within.f k x.1 x.2.1 x.2.2))]
noncomputable def i_GoodDisk.f (k : Nat) (d_Plate : List ByteArray) (d_Held : List ByteArray) (d_Bad : List Bool) : Option Bool := opq (i_GoodDisk.s.run Try.prog (i_GoodDisk.C k) k (d_Plate, d_Held, d_Bad))
theorem i_GoodDisk.ok (k : Nat) : CtrOk Try.prog 74 (i_GoodDisk.s.ctr (fun x => i_GoodDisk.f k x.1 x.2.1 x.2.2)) := sig_ok i_GoodDisk.s (.cons (i_within.ok k) .nil) (by kernel_rfl) fun _ => opq_eq _
noncomputable def i_GoodDisk.l0 (k : Nat) (m : Nat) (t27 : List ByteArray) (t28 : Int) (t29 : Int) (h1 : List ByteArray) (h1_ : List ByteArray) (h1__ : List Bool) : Option Bool := i_GoodDisk.s.head Try.prog (i_GoodDisk.C k) k 1 0 [] m [(1, AV.ptr 1 0 0), (27, AV.row 9 Kind.str t27), (28, AV.int IntKind.i64 t28), (29, AV.int IntKind.i64 t29)] [Root.dead, Root.box 38 [AV.row 9 Kind.str h1, AV.row 9 Kind.str h1_, AV.row 4 Kind.bool h1__]]
theorem i_GoodDisk.l0_z (k : Nat) (t27 : List ByteArray) (t28 : Int) (t29 : Int) (h1 : List ByteArray) (h1_ : List ByteArray) (h1__ : List Bool) : i_GoodDisk.l0 k 0 t27 t28 t29 h1 h1_ h1__ = none := by kernel_rfl
theorem i_GoodDisk.l0_s (k : Nat) (m : Nat) (t27 : List ByteArray) (t28 : Int) (t29 : Int) (h1 : List ByteArray) (h1_ : List ByteArray) (h1__ : List Bool) : i_GoodDisk.l0 k (m + 1) t27 t28 t29 h1 h1_ h1__ =
 cn (decide (t29 < t28))
 (gd (inb t29 t27.length)
  (cn (decide ((28 : Int) < (↑(getAt ByteArray.empty t27 t29.toNat).size : Int)))
   (some false)
   (gd (inb t29 h1_.length)
    (cn (decide ((28 : Int) < (↑(getAt ByteArray.empty h1_ t29.toNat).size : Int)))
     (some false)
     (gd (inb t29 h1__.length)
      (cn (getAt false h1__ t29.toNat)
       (gd (inb t29 h1_.length)
        (cn (!decide ((getAt ByteArray.empty h1_ t29.toNat).toList = ByteArray.empty.toList))
         (some false)
         (i_GoodDisk.l0 k m t27 t28 (IntKind.i64.wrap (t29 + (1 : Int))) h1 h1_ h1__)))
       (i_GoodDisk.l0 k m t27 t28 (IntKind.i64.wrap (t29 + (1 : Int))) h1 h1_ h1__)))))))
 (some true) := by kernel_rfl
theorem i_GoodDisk.f_eq (k : Nat) (d_Plate : List ByteArray) (d_Held : List ByteArray) (d_Bad : List Bool) : i_GoodDisk.f k d_Plate d_Held d_Bad =
 (i_within.f k (↑d_Plate.length : Int) (1 : Int) (24 : Int)).bind fun d0 =>
 cn (!d0)
 (some false)
 (cn (!decide ((↑d_Held.length : Int) = (↑d_Plate.length : Int)))
  (some false)
  (cn (!decide ((↑d_Bad.length : Int) = (↑d_Plate.length : Int)))
   (some false)
   (i_GoodDisk.l0 k k d_Plate ((↑d_Plate.length : Int)) ((0 : Int)) d_Plate d_Held d_Bad))) := (opq_eq _).trans (by kernel_rfl)
abbrev b_Index_bool.s : Sig := ⟨109, [], [.val, .val], [.one (.row 4 .bool), .one .bool], [.one (.int .i64)], [], [(0, [(0,false),(1,false),(7,false),(8,false)])]⟩
noncomputable def b_Index_bool.C (k : Nat) : List (Nat × Ctr) := []
noncomputable def b_Index_bool.f (k : Nat) (s : List Bool) (v : Bool) : Option Int := opq (b_Index_bool.s.run Try.prog (b_Index_bool.C k) k (s, v))
theorem b_Index_bool.ok (k : Nat) : CtrOk Try.prog 109 (b_Index_bool.s.ctr (fun x => b_Index_bool.f k x.1 x.2)) := sig_ok b_Index_bool.s .nil (by kernel_rfl) fun _ => opq_eq _
noncomputable def b_Index_bool.l0 (k : Nat) (m : Nat) (s0 : List Bool) (v1 : Bool) (t7 : Int) (t8 : Int) : Option Int := b_Index_bool.s.head Try.prog (b_Index_bool.C k) k 1 0 [] m [(0, AV.row 4 Kind.bool s0), (1, AV.bool v1), (7, AV.int IntKind.i64 t7), (8, AV.int IntKind.i64 t8)] [Root.dead]
theorem b_Index_bool.l0_z (k : Nat) (s0 : List Bool) (v1 : Bool) (t7 : Int) (t8 : Int) : b_Index_bool.l0 k 0 s0 v1 t7 t8 = none := by kernel_rfl
theorem b_Index_bool.l0_s (k : Nat) (m : Nat) (s0 : List Bool) (v1 : Bool) (t7 : Int) (t8 : Int) : b_Index_bool.l0 k (m + 1) s0 v1 t7 t8 =
 cn (decide (t8 < t7))
 (gd (inb t8 s0.length)
  (cn (v1 == getAt false s0 t8.toNat)
   (some t8)
   (b_Index_bool.l0 k m s0 v1 t7 (IntKind.i64.wrap (t8 + (1 : Int))))))
 (some ((-1 : Int))) := by kernel_rfl
theorem b_Index_bool.f_eq (k : Nat) (s : List Bool) (v : Bool) : b_Index_bool.f k s v =
 b_Index_bool.l0 k k s v ((↑s.length : Int)) ((0 : Int)) := (opq_eq _).trans (by kernel_rfl)
abbrev b_Contains_bool.s : Sig := ⟨82, [], [.val, .val], [.one (.row 4 .bool), .one .bool], [.one .bool], [], []⟩
noncomputable def b_Contains_bool.C (k : Nat) : List (Nat × Ctr) := [(109, b_Index_bool.s.ctr (fun x => b_Index_bool.f k x.1 x.2))]
noncomputable def b_Contains_bool.f (k : Nat) (s : List Bool) (v : Bool) : Option Bool := opq (b_Contains_bool.s.run Try.prog (b_Contains_bool.C k) k (s, v))
theorem b_Contains_bool.ok (k : Nat) : CtrOk Try.prog 82 (b_Contains_bool.s.ctr (fun x => b_Contains_bool.f k x.1 x.2)) := sig_ok b_Contains_bool.s (.cons (b_Index_bool.ok k) .nil) (by kernel_rfl) fun _ => opq_eq _
theorem b_Contains_bool.f_eq (k : Nat) (s : List Bool) (v : Bool) : b_Contains_bool.f k s v =
 (b_Index_bool.f k s v).bind fun d0 =>
 some (decide ((0 : Int) ≤ d0)) := (opq_eq _).trans (by kernel_rfl)
abbrev i_isState_1.s : Sig := ⟨98, [], [.val], [.one (.int .i64)], [.one .bool], [], []⟩
noncomputable def i_isState_1.C (k : Nat) : List (Nat × Ctr) := [(83, i_within.s.ctr (fun x => i_within.f k x.1 x.2.1 x.2.2))]
noncomputable def i_isState_1.f (k : Nat) (n : Int) : Option Bool := opq (i_isState_1.s.run Try.prog (i_isState_1.C k) k n)
theorem i_isState_1.ok (k : Nat) : CtrOk Try.prog 98 (i_isState_1.s.ctr (fun x => i_isState_1.f k x)) := sig_ok i_isState_1.s (.cons (i_within.ok k) .nil) (by kernel_rfl) fun _ => opq_eq _
theorem i_isState_1.f_eq (k : Nat) (n : Int) : i_isState_1.f k n =
 (i_within.f k n (0 : Int) (65535 : Int)).bind fun d0 =>
 some (!d0) := (opq_eq _).trans (by kernel_rfl)
abbrev b_IndexFunc_int__i_isState_1.s : Sig := ⟨123, [], [.val, .val], [.one (.row 3 (.int .i64)), .one (.fn 98)], [.one (.int .i64)], [], [(0, [(0,false),(1,false),(7,false),(8,false)])]⟩
noncomputable def b_IndexFunc_int__i_isState_1.C (k : Nat) : List (Nat × Ctr) := [(98, i_isState_1.s.ctr (fun x => i_isState_1.f k x))]
noncomputable def b_IndexFunc_int__i_isState_1.f (k : Nat) (s : List Int) : Option Int := opq (b_IndexFunc_int__i_isState_1.s.run Try.prog (b_IndexFunc_int__i_isState_1.C k) k (s, ()))
theorem b_IndexFunc_int__i_isState_1.ok (k : Nat) : CtrOk Try.prog 123 (b_IndexFunc_int__i_isState_1.s.ctr (fun x => b_IndexFunc_int__i_isState_1.f k x.1)) := sig_ok b_IndexFunc_int__i_isState_1.s (.cons (i_isState_1.ok k) .nil) (by kernel_rfl) fun _ => opq_eq _
noncomputable def b_IndexFunc_int__i_isState_1.l0 (k : Nat) (m : Nat) (s0 : List Int) (t7 : Int) (t8 : Int) : Option Int := b_IndexFunc_int__i_isState_1.s.head Try.prog (b_IndexFunc_int__i_isState_1.C k) k 1 0 [] m [(0, AV.row 3 (Kind.int IntKind.i64) s0), (1, AV.fn 98), (7, AV.int IntKind.i64 t7), (8, AV.int IntKind.i64 t8)] [Root.dead]
theorem b_IndexFunc_int__i_isState_1.l0_z (k : Nat) (s0 : List Int) (t7 : Int) (t8 : Int) : b_IndexFunc_int__i_isState_1.l0 k 0 s0 t7 t8 = none := by kernel_rfl
theorem b_IndexFunc_int__i_isState_1.l0_s (k : Nat) (m : Nat) (s0 : List Int) (t7 : Int) (t8 : Int) : b_IndexFunc_int__i_isState_1.l0 k (m + 1) s0 t7 t8 =
 cn (decide (t8 < t7))
 (gd (inb t8 s0.length)
  ((i_isState_1.f k (getAt (0 : Int) s0 t8.toNat)).bind fun d0 =>
   cn d0
   (some t8)
   (b_IndexFunc_int__i_isState_1.l0 k m s0 t7 (IntKind.i64.wrap (t8 + (1 : Int))))))
 (some ((-1 : Int))) := by kernel_rfl
theorem b_IndexFunc_int__i_isState_1.f_eq (k : Nat) (s : List Int) : b_IndexFunc_int__i_isState_1.f k s =
 b_IndexFunc_int__i_isState_1.l0 k k s ((↑s.length : Int)) ((0 : Int)) := (opq_eq _).trans (by kernel_rfl)
abbrev b_ContainsFunc_int__i_isState_1.s : Sig := ⟨97, [], [.val, .val], [.one (.row 3 (.int .i64)), .one (.fn 98)], [.one .bool], [], []⟩
noncomputable def b_ContainsFunc_int__i_isState_1.C (k : Nat) : List (Nat × Ctr) := [(123, b_IndexFunc_int__i_isState_1.s.ctr (fun x => b_IndexFunc_int__i_isState_1.f k x.1))]
noncomputable def b_ContainsFunc_int__i_isState_1.f (k : Nat) (s : List Int) : Option Bool := opq (b_ContainsFunc_int__i_isState_1.s.run Try.prog (b_ContainsFunc_int__i_isState_1.C k) k (s, ()))
theorem b_ContainsFunc_int__i_isState_1.ok (k : Nat) : CtrOk Try.prog 97 (b_ContainsFunc_int__i_isState_1.s.ctr (fun x => b_ContainsFunc_int__i_isState_1.f k x.1)) := sig_ok b_ContainsFunc_int__i_isState_1.s (.cons (b_IndexFunc_int__i_isState_1.ok k) .nil) (by kernel_rfl) fun _ => opq_eq _
theorem b_ContainsFunc_int__i_isState_1.f_eq (k : Nat) (s : List Int) : b_ContainsFunc_int__i_isState_1.f k s =
 (b_IndexFunc_int__i_isState_1.f k s).bind fun d0 =>
 some (decide ((0 : Int) ≤ d0)) := (opq_eq _).trans (by kernel_rfl)
abbrev i_isState.s : Sig := ⟨56, [], [.val], [.one (.row 3 (.int .i64))], [.one .bool], [], []⟩
noncomputable def i_isState.C (k : Nat) : List (Nat × Ctr) := [(97, b_ContainsFunc_int__i_isState_1.s.ctr (fun x => b_ContainsFunc_int__i_isState_1.f k x.1))]
noncomputable def i_isState.f (k : Nat) (values : List Int) : Option Bool := opq (i_isState.s.run Try.prog (i_isState.C k) k values)
theorem i_isState.ok (k : Nat) : CtrOk Try.prog 56 (i_isState.s.ctr (fun x => i_isState.f k x)) := sig_ok i_isState.s (.cons (b_ContainsFunc_int__i_isState_1.ok k) .nil) (by kernel_rfl) fun _ => opq_eq _
theorem i_isState.f_eq (k : Nat) (values : List Int) : i_isState.f k values =
 cn (decide ((↑values.length : Int) = (6 : Int)))
 ((b_ContainsFunc_int__i_isState_1.f k values).bind fun d0 =>
  some (!d0))
 (some false) := (opq_eq _).trans (by kernel_rfl)
abbrev b_Clone_string.s : Sig := ⟨131, [], [.val], [.one (.row 9 .str)], [.one (.own 9 .str)], [], []⟩
noncomputable def b_Clone_string.C (k : Nat) : List (Nat × Ctr) := []
noncomputable def b_Clone_string.f (k : Nat) (s : List ByteArray) : Option (List ByteArray) := opq (b_Clone_string.s.run Try.prog (b_Clone_string.C k) k s)
theorem b_Clone_string.ok (k : Nat) : CtrOk Try.prog 131 (b_Clone_string.s.ctr (fun x => b_Clone_string.f k x)) := sig_ok b_Clone_string.s .nil (by kernel_rfl) fun _ => opq_eq _
theorem b_Clone_string.f_eq (k : Nat) (s : List ByteArray) : b_Clone_string.f k s =
 cn (noEl s)
 (both
  (some ([]))
  (gd (appOk ((0 : Nat) + s.length) (Try.prog.bytesOf (9 : Nat)))
   (some ([] ++ s))))
 (gd (appOk ((0 : Nat) + s.length) (Try.prog.bytesOf (9 : Nat)))
  (some ([] ++ s))) := (opq_eq _).trans (by kernel_rfl)
abbrev b_Clone_bool.s : Sig := ⟨132, [], [.val], [.one (.row 4 .bool)], [.one (.own 4 .bool)], [], []⟩
noncomputable def b_Clone_bool.C (k : Nat) : List (Nat × Ctr) := []
noncomputable def b_Clone_bool.f (k : Nat) (s : List Bool) : Option (List Bool) := opq (b_Clone_bool.s.run Try.prog (b_Clone_bool.C k) k s)
theorem b_Clone_bool.ok (k : Nat) : CtrOk Try.prog 132 (b_Clone_bool.s.ctr (fun x => b_Clone_bool.f k x)) := sig_ok b_Clone_bool.s .nil (by kernel_rfl) fun _ => opq_eq _
theorem b_Clone_bool.f_eq (k : Nat) (s : List Bool) : b_Clone_bool.f k s =
 cn (noEl s)
 (both
  (some ([]))
  (gd (appOk ((0 : Nat) + s.length) (Try.prog.bytesOf (4 : Nat)))
   (some ([] ++ s))))
 (gd (appOk ((0 : Nat) + s.length) (Try.prog.bytesOf (4 : Nat)))
  (some ([] ++ s))) := (opq_eq _).trans (by kernel_rfl)
abbrev i_ownDisk.s : Sig := ⟨110, [], [.val], [.agg [.row 9 .str, .row 9 .str, .row 4 .bool]], [.agg [.own 9 .str, .own 9 .str, .own 4 .bool]], [], []⟩
noncomputable def i_ownDisk.C (k : Nat) : List (Nat × Ctr) := [(131, b_Clone_string.s.ctr (fun x => b_Clone_string.f k x)), (132, b_Clone_bool.s.ctr (fun x => b_Clone_bool.f k x))]
noncomputable def i_ownDisk.f (k : Nat) (d_Plate : List ByteArray) (d_Held : List ByteArray) (d_Bad : List Bool) : Option (List ByteArray × List ByteArray × List Bool) := opq (i_ownDisk.s.run Try.prog (i_ownDisk.C k) k (d_Plate, d_Held, d_Bad))
theorem i_ownDisk.ok (k : Nat) : CtrOk Try.prog 110 (i_ownDisk.s.ctr (fun x => i_ownDisk.f k x.1 x.2.1 x.2.2)) := sig_ok i_ownDisk.s (.cons (b_Clone_string.ok k) (.cons (b_Clone_bool.ok k) .nil)) (by kernel_rfl) fun _ => opq_eq _
theorem i_ownDisk.f_eq (k : Nat) (d_Plate : List ByteArray) (d_Held : List ByteArray) (d_Bad : List Bool) : i_ownDisk.f k d_Plate d_Held d_Bad =
 (b_Clone_string.f k d_Plate).bind fun d0 =>
 (b_Clone_string.f k d_Held).bind fun d1 =>
 (b_Clone_bool.f k d_Bad).bind fun d2 =>
 some ((d0, d1, d2)) := (opq_eq _).trans (by kernel_rfl)
abbrev b_Index_int.s : Sig := ⟨133, [], [.val, .val], [.one (.row 3 (.int .i64)), .one (.int .i64)], [.one (.int .i64)], [], [(0, [(0,false),(1,false),(7,false),(8,false)])]⟩
noncomputable def b_Index_int.C (k : Nat) : List (Nat × Ctr) := []
noncomputable def b_Index_int.f (k : Nat) (s : List Int) (v : Int) : Option Int := opq (b_Index_int.s.run Try.prog (b_Index_int.C k) k (s, v))
theorem b_Index_int.ok (k : Nat) : CtrOk Try.prog 133 (b_Index_int.s.ctr (fun x => b_Index_int.f k x.1 x.2)) := sig_ok b_Index_int.s .nil (by kernel_rfl) fun _ => opq_eq _
noncomputable def b_Index_int.l0 (k : Nat) (m : Nat) (s0 : List Int) (v1 : Int) (t7 : Int) (t8 : Int) : Option Int := b_Index_int.s.head Try.prog (b_Index_int.C k) k 1 0 [] m [(0, AV.row 3 (Kind.int IntKind.i64) s0), (1, AV.int IntKind.i64 v1), (7, AV.int IntKind.i64 t7), (8, AV.int IntKind.i64 t8)] [Root.dead]
theorem b_Index_int.l0_z (k : Nat) (s0 : List Int) (v1 : Int) (t7 : Int) (t8 : Int) : b_Index_int.l0 k 0 s0 v1 t7 t8 = none := by kernel_rfl
theorem b_Index_int.l0_s (k : Nat) (m : Nat) (s0 : List Int) (v1 : Int) (t7 : Int) (t8 : Int) : b_Index_int.l0 k (m + 1) s0 v1 t7 t8 =
 cn (decide (t8 < t7))
 (gd (inb t8 s0.length)
  (cn (decide (v1 = getAt (0 : Int) s0 t8.toNat))
   (some t8)
   (b_Index_int.l0 k m s0 v1 t7 (IntKind.i64.wrap (t8 + (1 : Int))))))
 (some ((-1 : Int))) := by kernel_rfl
theorem b_Index_int.f_eq (k : Nat) (s : List Int) (v : Int) : b_Index_int.f k s v =
 b_Index_int.l0 k k s v ((↑s.length : Int)) ((0 : Int)) := (opq_eq _).trans (by kernel_rfl)
abbrev b_Contains_int.s : Sig := ⟨111, [], [.val, .val], [.one (.row 3 (.int .i64)), .one (.int .i64)], [.one .bool], [], []⟩
noncomputable def b_Contains_int.C (k : Nat) : List (Nat × Ctr) := [(133, b_Index_int.s.ctr (fun x => b_Index_int.f k x.1 x.2))]
noncomputable def b_Contains_int.f (k : Nat) (s : List Int) (v : Int) : Option Bool := opq (b_Contains_int.s.run Try.prog (b_Contains_int.C k) k (s, v))
theorem b_Contains_int.ok (k : Nat) : CtrOk Try.prog 111 (b_Contains_int.s.ctr (fun x => b_Contains_int.f k x.1 x.2)) := sig_ok b_Contains_int.s (.cons (b_Index_int.ok k) .nil) (by kernel_rfl) fun _ => opq_eq _
theorem b_Contains_int.f_eq (k : Nat) (s : List Int) (v : Int) : b_Contains_int.f k s v =
 (b_Index_int.f k s v).bind fun d0 =>
 some (decide ((0 : Int) ≤ d0)) := (opq_eq _).trans (by kernel_rfl)
abbrev i_crashed.s : Sig := ⟨84, [], [.val, .val], [.agg [.row 9 .str, .row 9 .str, .row 4 .bool], .one (.row 3 (.int .i64))], [.agg [.own 9 .str, .own 9 .str, .own 4 .bool]], [], [(0, [(1,false),(4,false),(5,false),(11,false),(12,false)])]⟩
noncomputable def i_crashed.C (k : Nat) : List (Nat × Ctr) := [(110, i_ownDisk.s.ctr (fun x => i_ownDisk.f k x.1 x.2.1 x.2.2)), (111, b_Contains_int.s.ctr (fun x => b_Contains_int.f k x.1 x.2))]
noncomputable def i_crashed.f (k : Nat) (d_Plate : List ByteArray) (d_Held : List ByteArray) (d_Bad : List Bool) (kept : List Int) : Option (List ByteArray × List ByteArray × List Bool) := opq (i_crashed.s.run Try.prog (i_crashed.C k) k ((d_Plate, d_Held, d_Bad), kept))
theorem i_crashed.ok (k : Nat) : CtrOk Try.prog 84 (i_crashed.s.ctr (fun x => i_crashed.f k x.1.1 x.1.2.1 x.1.2.2 x.2)) := sig_ok i_crashed.s (.cons (i_ownDisk.ok k) (.cons (b_Contains_int.ok k) .nil)) (by kernel_rfl) fun _ => opq_eq _
noncomputable def i_crashed.l0 (k : Nat) (m : Nat) (kept1 : List Int) (t11 : Int) (t12 : Int) (h2 : List ByteArray) (h3 : List ByteArray) (h4 : List Bool) : Option (List ByteArray × List ByteArray × List Bool) := i_crashed.s.head Try.prog (i_crashed.C k) k 1 0 [] m [(1, AV.row 3 (Kind.int IntKind.i64) kept1), (4, AV.ptr 1 0 0), (5, AV.ptr 5 0 0), (11, AV.int IntKind.i64 t11), (12, AV.int IntKind.i64 t12)] [Root.dead, Root.box 38 [AV.nil 9 Kind.str, AV.nil 9 Kind.str, AV.nil 4 Kind.bool], Root.rows 9 Kind.str h2, Root.rows 9 Kind.str h3, Root.rows 4 Kind.bool h4, Root.box 38 [AV.ref 2, AV.ref 3, AV.ref 4]]
theorem i_crashed.l0_z (k : Nat) (kept1 : List Int) (t11 : Int) (t12 : Int) (h2 : List ByteArray) (h3 : List ByteArray) (h4 : List Bool) : i_crashed.l0 k 0 kept1 t11 t12 h2 h3 h4 = none := by kernel_rfl
theorem i_crashed.l0_s (k : Nat) (m : Nat) (kept1 : List Int) (t11 : Int) (t12 : Int) (h2 : List ByteArray) (h3 : List ByteArray) (h4 : List Bool) : i_crashed.l0 k (m + 1) kept1 t11 t12 h2 h3 h4 =
 cn (decide (t12 < t11))
 ((b_Contains_int.f k kept1 t12).bind fun d1 =>
  cn d1
  (gd (inb t12 h3.length)
   (gd (inb t12 h2.length)
    (gd (inb t12 h3.length)
     (i_crashed.l0 k m kept1 t11 (IntKind.i64.wrap (t12 + (1 : Int))) (h2.set t12.toNat (getAt ByteArray.empty h3 t12.toNat)) (h3.set t12.toNat ByteArray.empty) h4))))
  (gd (inb t12 h3.length)
   (i_crashed.l0 k m kept1 t11 (IntKind.i64.wrap (t12 + (1 : Int))) h2 (h3.set t12.toNat ByteArray.empty) h4)))
 (some ((h2, h3, h4))) := by kernel_rfl
theorem i_crashed.f_eq (k : Nat) (d_Plate : List ByteArray) (d_Held : List ByteArray) (d_Bad : List Bool) (kept : List Int) : i_crashed.f k d_Plate d_Held d_Bad kept =
 (i_ownDisk.f k d_Plate d_Held d_Bad).bind fun d0 =>
 i_crashed.l0 k k kept ((↑d0.snd.fst.length : Int)) ((0 : Int)) d0.fst d0.snd.fst d0.snd.snd := (opq_eq _).trans (by kernel_rfl)
abbrev i_Disk_has.s : Sig := ⟨107, [], [.val, .val], [.agg [.row 9 .str, .row 9 .str, .row 4 .bool], .one (.int .i64)], [.one .bool], [], []⟩
noncomputable def i_Disk_has.C (k : Nat) : List (Nat × Ctr) := [(83, i_within.s.ctr (fun x => i_within.f k x.1 x.2.1 x.2.2))]
noncomputable def i_Disk_has.f (k : Nat) (d_Plate : List ByteArray) (d_Held : List ByteArray) (d_Bad : List Bool) (at_ : Int) : Option Bool := opq (i_Disk_has.s.run Try.prog (i_Disk_has.C k) k ((d_Plate, d_Held, d_Bad), at_))
theorem i_Disk_has.ok (k : Nat) : CtrOk Try.prog 107 (i_Disk_has.s.ctr (fun x => i_Disk_has.f k x.1.1 x.1.2.1 x.1.2.2 x.2)) := sig_ok i_Disk_has.s (.cons (i_within.ok k) .nil) (by kernel_rfl) fun _ => opq_eq _
theorem i_Disk_has.f_eq (k : Nat) (d_Plate : List ByteArray) (d_Held : List ByteArray) (d_Bad : List Bool) (at_ : Int) : i_Disk_has.f k d_Plate d_Held d_Bad at_ =
 (i_within.f k at_ (0 : Int) (IntKind.i64.wrap ((↑d_Plate.length : Int) - (1 : Int)))).bind fun d0 =>
 some d0 := (opq_eq _).trans (by kernel_rfl)
abbrev i_ReadSector.s : Sig := ⟨75, [], [.val, .val], [.agg [.row 9 .str, .row 9 .str, .row 4 .bool], .one (.int .i64)], [.one .str, .one .bool], [], []⟩
noncomputable def i_ReadSector.C (k : Nat) : List (Nat × Ctr) := [(74, i_GoodDisk.s.ctr (fun x => i_GoodDisk.f k x.1 x.2.1 x.2.2)), (107, i_Disk_has.s.ctr (fun x => i_Disk_has.f k x.1.1 x.1.2.1 x.1.2.2 x.2))]
noncomputable def i_ReadSector.f (k : Nat) (d_Plate : List ByteArray) (d_Held : List ByteArray) (d_Bad : List Bool) (at_ : Int) : Option (ByteArray × Bool) := opq (i_ReadSector.s.run Try.prog (i_ReadSector.C k) k ((d_Plate, d_Held, d_Bad), at_))
theorem i_ReadSector.ok (k : Nat) : CtrOk Try.prog 75 (i_ReadSector.s.ctr (fun x => i_ReadSector.f k x.1.1 x.1.2.1 x.1.2.2 x.2)) := sig_ok i_ReadSector.s (.cons (i_GoodDisk.ok k) (.cons (i_Disk_has.ok k) .nil)) (by kernel_rfl) fun _ => opq_eq _
theorem i_ReadSector.f_eq (k : Nat) (d_Plate : List ByteArray) (d_Held : List ByteArray) (d_Bad : List Bool) (at_ : Int) : i_ReadSector.f k d_Plate d_Held d_Bad at_ =
 (i_GoodDisk.f k d_Plate d_Held d_Bad).bind fun d0 =>
 cn (!d0)
 (some ((ByteArray.empty, false)))
 ((i_Disk_has.f k d_Plate d_Held d_Bad at_).bind fun d1 =>
  cn (!d1)
  (some ((ByteArray.empty, false)))
  (gd (inb at_ d_Bad.length)
   (cn (getAt false d_Bad at_.toNat)
    (some ((ByteArray.empty, false)))
    (gd (inb at_ d_Held.length)
     (cn (!decide ((getAt ByteArray.empty d_Held at_.toNat).toList = ByteArray.empty.toList))
      (gd (inb at_ d_Held.length)
       (some ((getAt ByteArray.empty d_Held at_.toNat, true))))
      (gd (inb at_ d_Plate.length)
       (some ((getAt ByteArray.empty d_Plate at_.toNat, true))))))))) := (opq_eq _).trans (by kernel_rfl)
abbrev i_turned.s : Sig := ⟨136, [], [.val], [.one (.int .i64)], [.one (.int .i64)], [], []⟩
noncomputable def i_turned.C (k : Nat) : List (Nat × Ctr) := []
noncomputable def i_turned.f (k : Nat) (sum : Int) : Option Int := opq (i_turned.s.run Try.prog (i_turned.C k) k sum)
theorem i_turned.ok (k : Nat) : CtrOk Try.prog 136 (i_turned.s.ctr (fun x => i_turned.f k x)) := sig_ok i_turned.s .nil (by kernel_rfl) fun _ => opq_eq _
theorem i_turned.f_eq (k : Nat) (sum : Int) : i_turned.f k sum =
 some (IntKind.i64.wrap (↑(BitVec.ofInt (64 : Nat) sum ^^^ BitVec.ofInt (64 : Nat) (4294967295 : Int)).toNat : Int)) := (opq_eq _).trans (by kernel_rfl)
abbrev i_shifted.s : Sig := ⟨137, [], [.val], [.one (.int .i64)], [.one (.int .i64)], [], [(0, [(0,false),(4,false)])]⟩
noncomputable def i_shifted.C (k : Nat) : List (Nat × Ctr) := []
noncomputable def i_shifted.f (k : Nat) (sum : Int) : Option Int := opq (i_shifted.s.run Try.prog (i_shifted.C k) k sum)
theorem i_shifted.ok (k : Nat) : CtrOk Try.prog 137 (i_shifted.s.ctr (fun x => i_shifted.f k x)) := sig_ok i_shifted.s .nil (by kernel_rfl) fun _ => opq_eq _
noncomputable def i_shifted.l0 (k : Nat) (m : Nat) (sum0 : Int) (t4 : Int) : Option Int := i_shifted.s.head Try.prog (i_shifted.C k) k 1 0 [] m [(0, AV.int IntKind.i64 sum0), (4, AV.int IntKind.i64 t4)] [Root.dead]
theorem i_shifted.l0_z (k : Nat) (sum0 : Int) (t4 : Int) : i_shifted.l0 k 0 sum0 t4 = none := by kernel_rfl
theorem i_shifted.l0_s (k : Nat) (m : Nat) (sum0 : Int) (t4 : Int) : i_shifted.l0 k (m + 1) sum0 t4 =
 cn (decide (t4 < (8 : Int)))
 (cn (decide (IntKind.i64.wrap (↑(BitVec.ofInt (64 : Nat) sum0 &&& BitVec.ofInt (64 : Nat) (1 : Int)).toNat : Int) = (1 : Int)))
  (i_shifted.l0 k m (IntKind.i64.wrap (↑(BitVec.ofInt (64 : Nat) (sum0.fdiv ((2 : Int) ^ (1 : Nat))) ^^^ BitVec.ofInt (64 : Nat) (2197175160 : Int)).toNat : Int)) (IntKind.i64.wrap (t4 + (1 : Int))))
  (i_shifted.l0 k m (sum0.fdiv ((2 : Int) ^ (1 : Nat))) (IntKind.i64.wrap (t4 + (1 : Int)))))
 (some sum0) := by kernel_rfl
theorem i_shifted.f_eq (k : Nat) (sum : Int) : i_shifted.f k sum =
 i_shifted.l0 k k sum ((0 : Int)) := (opq_eq _).trans (by kernel_rfl)
abbrev i_sumOn.s : Sig := ⟨128, [], [.val, .val], [.one (.int .i64), .one .str], [.one (.int .i64)], [], [(0, [(0,false),(1,false),(9,false),(10,false)])]⟩
noncomputable def i_sumOn.C (k : Nat) : List (Nat × Ctr) := [(136, i_turned.s.ctr (fun x => i_turned.f k x)), (137, i_shifted.s.ctr (fun x => i_shifted.f k x))]
noncomputable def i_sumOn.f (k : Nat) (sum : Int) (s : ByteArray) : Option Int := opq (i_sumOn.s.run Try.prog (i_sumOn.C k) k (sum, s))
theorem i_sumOn.ok (k : Nat) : CtrOk Try.prog 128 (i_sumOn.s.ctr (fun x => i_sumOn.f k x.1 x.2)) := sig_ok i_sumOn.s (.cons (i_turned.ok k) (.cons (i_shifted.ok k) .nil)) (by kernel_rfl) fun _ => opq_eq _
noncomputable def i_sumOn.l0 (k : Nat) (m : Nat) (sum0 : Int) (s1 : ByteArray) (t9 : Int) (t10 : Int) : Option Int := i_sumOn.s.head Try.prog (i_sumOn.C k) k 1 0 [] m [(0, AV.int IntKind.i64 sum0), (1, AV.str s1), (9, AV.int IntKind.i64 t9), (10, AV.int IntKind.i64 t10)] [Root.dead]
theorem i_sumOn.l0_z (k : Nat) (sum0 : Int) (s1 : ByteArray) (t9 : Int) (t10 : Int) : i_sumOn.l0 k 0 sum0 s1 t9 t10 = none := by kernel_rfl
theorem i_sumOn.l0_s (k : Nat) (m : Nat) (sum0 : Int) (s1 : ByteArray) (t9 : Int) (t10 : Int) : i_sumOn.l0 k (m + 1) sum0 s1 t9 t10 =
 cn (decide (t10 < t9))
 (gd (inb t10 s1.size)
  ((i_shifted.f k (IntKind.i64.wrap (↑(BitVec.ofInt (64 : Nat) sum0 ^^^ BitVec.ofInt (64 : Nat) (IntKind.i64.wrap (↑(s1.data.getD t10.toNat (0 : UInt8)).toNat : Int))).toNat : Int))).bind fun d2 =>
   i_sumOn.l0 k m d2 s1 t9 (IntKind.i64.wrap (t10 + (1 : Int)))))
 ((i_turned.f k sum0).bind fun d1 =>
  some d1) := by kernel_rfl
theorem i_sumOn.f_eq (k : Nat) (sum : Int) (s : ByteArray) : i_sumOn.f k sum s =
 (i_turned.f k sum).bind fun d0 =>
 i_sumOn.l0 k k d0 s ((↑s.size : Int)) ((0 : Int)) := (opq_eq _).trans (by kernel_rfl)
abbrev i_GoodFrame.s : Sig := ⟨130, [], [.val], [.agg [.int .i64, .int .i64, .int .i64, .str]], [.one .bool], [], []⟩
noncomputable def i_GoodFrame.C (k : Nat) : List (Nat × Ctr) := [(83, i_within.s.ctr (fun x => i_within.f k x.1 x.2.1 x.2.2))]
noncomputable def i_GoodFrame.f (k : Nat) (f_Kind : Int) (f_At : Int) (f_Epoch : Int) (f_Body : ByteArray) : Option Bool := opq (i_GoodFrame.s.run Try.prog (i_GoodFrame.C k) k (f_Kind, f_At, f_Epoch, f_Body))
theorem i_GoodFrame.ok (k : Nat) : CtrOk Try.prog 130 (i_GoodFrame.s.ctr (fun x => i_GoodFrame.f k x.1 x.2.1 x.2.2.1 x.2.2.2)) := sig_ok i_GoodFrame.s (.cons (i_within.ok k) .nil) (by kernel_rfl) fun _ => opq_eq _
theorem i_GoodFrame.f_eq (k : Nat) (f_Kind : Int) (f_At : Int) (f_Epoch : Int) (f_Body : ByteArray) : i_GoodFrame.f k f_Kind f_At f_Epoch f_Body =
 (i_within.f k f_Kind (1 : Int) (255 : Int)).bind fun d0 =>
 cn d0
 ((i_within.f k f_At (0 : Int) (60000 : Int)).bind fun d1 =>
  cn d1
  ((i_within.f k f_Epoch (0 : Int) (60000 : Int)).bind fun d2 =>
   cn d2
   (some (decide ((↑f_Body.size : Int) ≤ (16 : Int))))
   (some false))
  (some false))
 (some false) := (opq_eq _).trans (by kernel_rfl)
abbrev i_frameBytes.s : Sig := ⟨104, [], [.val], [.agg [.int .i64, .int .i64, .int .i64, .str]], [.one .str], [], []⟩
noncomputable def i_frameBytes.C (k : Nat) : List (Nat × Ctr) := [(128, i_sumOn.s.ctr (fun x => i_sumOn.f k x.1 x.2))]
noncomputable def i_frameBytes.f (k : Nat) (f_Kind : Int) (f_At : Int) (f_Epoch : Int) (f_Body : ByteArray) : Option ByteArray := opq (i_frameBytes.s.run Try.prog (i_frameBytes.C k) k (f_Kind, f_At, f_Epoch, f_Body))
theorem i_frameBytes.ok (k : Nat) : CtrOk Try.prog 104 (i_frameBytes.s.ctr (fun x => i_frameBytes.f k x.1 x.2.1 x.2.2.1 x.2.2.2)) := sig_ok i_frameBytes.s (.cons (i_sumOn.ok k) .nil) (by kernel_rfl) fun _ => opq_eq _
theorem i_frameBytes.f_eq (k : Nat) (f_Kind : Int) (f_At : Int) (f_Epoch : Int) (f_Body : ByteArray) : i_frameBytes.f k f_Kind f_At f_Epoch f_Body =
 gd (appOk ([IntKind.u8.wrap f_Kind, IntKind.u8.wrap (f_At.fdiv ((2 : Int) ^ (8 : Nat))), IntKind.u8.wrap f_At, IntKind.u8.wrap (f_Epoch.fdiv ((2 : Int) ^ (8 : Nat))), IntKind.u8.wrap f_Epoch, IntKind.u8.wrap (↑f_Body.size : Int)].length + (bytesL f_Body).length) (Try.prog.bytesOf (5 : Nat)))
 (gd (decide ((0 : Int) ≤ IntKind.i64.wrap (IntKind.i64.wrap ((18 : Int) - (↑f_Body.size : Int)))) && appOk (([IntKind.u8.wrap f_Kind, IntKind.u8.wrap (f_At.fdiv ((2 : Int) ^ (8 : Nat))), IntKind.u8.wrap f_At, IntKind.u8.wrap (f_Epoch.fdiv ((2 : Int) ^ (8 : Nat))), IntKind.u8.wrap f_Epoch, IntKind.u8.wrap (↑f_Body.size : Int)] ++ bytesL f_Body).length + (List.replicate (IntKind.i64.wrap (IntKind.i64.wrap ((18 : Int) - (↑f_Body.size : Int)))).toNat (0 : Int)).length) (Try.prog.bytesOf (5 : Nat)))
  ((i_sumOn.f k (0 : Int) (strOfNums ([IntKind.u8.wrap f_Kind, IntKind.u8.wrap (f_At.fdiv ((2 : Int) ^ (8 : Nat))), IntKind.u8.wrap f_At, IntKind.u8.wrap (f_Epoch.fdiv ((2 : Int) ^ (8 : Nat))), IntKind.u8.wrap f_Epoch, IntKind.u8.wrap (↑f_Body.size : Int)] ++ bytesL f_Body ++ List.replicate (IntKind.i64.wrap (IntKind.i64.wrap ((18 : Int) - (↑f_Body.size : Int)))).toNat (0 : Int)))).bind fun d0 =>
   gd (appOk (([IntKind.u8.wrap f_Kind, IntKind.u8.wrap (f_At.fdiv ((2 : Int) ^ (8 : Nat))), IntKind.u8.wrap f_At, IntKind.u8.wrap (f_Epoch.fdiv ((2 : Int) ^ (8 : Nat))), IntKind.u8.wrap f_Epoch, IntKind.u8.wrap (↑f_Body.size : Int)] ++ bytesL f_Body ++ List.replicate (IntKind.i64.wrap (IntKind.i64.wrap ((18 : Int) - (↑f_Body.size : Int)))).toNat (0 : Int)).length + [IntKind.u8.wrap d0, IntKind.u8.wrap (Int.fdiv d0 ((2 : Int) ^ (8 : Nat))), IntKind.u8.wrap (Int.fdiv d0 ((2 : Int) ^ (16 : Nat))), IntKind.u8.wrap (Int.fdiv d0 ((2 : Int) ^ (24 : Nat)))].length) (Try.prog.bytesOf (5 : Nat)))
   (some (strOfNums ([IntKind.u8.wrap f_Kind, IntKind.u8.wrap (f_At.fdiv ((2 : Int) ^ (8 : Nat))), IntKind.u8.wrap f_At, IntKind.u8.wrap (f_Epoch.fdiv ((2 : Int) ^ (8 : Nat))), IntKind.u8.wrap f_Epoch, IntKind.u8.wrap (↑f_Body.size : Int)] ++ bytesL f_Body ++ List.replicate (IntKind.i64.wrap (IntKind.i64.wrap ((18 : Int) - (↑f_Body.size : Int)))).toNat (0 : Int) ++ [IntKind.u8.wrap d0, IntKind.u8.wrap (Int.fdiv d0 ((2 : Int) ^ (8 : Nat))), IntKind.u8.wrap (Int.fdiv d0 ((2 : Int) ^ (16 : Nat))), IntKind.u8.wrap (Int.fdiv d0 ((2 : Int) ^ (24 : Nat)))]))))) := (opq_eq _).trans (by kernel_rfl)
abbrev i_ReadFrame.s : Sig := ⟨108, [], [.val], [.one .str], [.agg [.int .i64, .int .i64, .int .i64, .str], .one (.int .i64), .one .bool], [], []⟩
noncomputable def i_ReadFrame.C (k : Nat) : List (Nat × Ctr) := [(104, i_frameBytes.s.ctr (fun x => i_frameBytes.f k x.1 x.2.1 x.2.2.1 x.2.2.2)), (128, i_sumOn.s.ctr (fun x => i_sumOn.f k x.1 x.2)), (130, i_GoodFrame.s.ctr (fun x => i_GoodFrame.f k x.1 x.2.1 x.2.2.1 x.2.2.2))]
noncomputable def i_ReadFrame.f (k : Nat) (s : ByteArray) : Option ((Int × Int × Int × ByteArray) × Int × Bool) := opq (i_ReadFrame.s.run Try.prog (i_ReadFrame.C k) k s)
theorem i_ReadFrame.ok (k : Nat) : CtrOk Try.prog 108 (i_ReadFrame.s.ctr (fun x => i_ReadFrame.f k x)) := sig_ok i_ReadFrame.s (.cons (i_frameBytes.ok k) (.cons (i_sumOn.ok k) (.cons (i_GoodFrame.ok k) .nil))) (by kernel_rfl) fun _ => opq_eq _
theorem i_ReadFrame.f_eq (k : Nat) (s : ByteArray) : i_ReadFrame.f k s =
 cn (!decide ((↑s.size : Int) = (28 : Int)))
 (some ((((0 : Int), (0 : Int), (0 : Int), ByteArray.empty), (1 : Int), false)))
 (gd (true && decide ((24 : Int) ≤ (↑s.size : Int)))
  ((i_sumOn.f k (0 : Int) (s.extract (0 : Nat) (24 : Nat))).bind fun d0 =>
   gd (true && decide ((24 : Int) ≤ (↑s.size : Int)))
   (cn (!decide ((s.extract (24 : Nat) s.size).toList = (strOfNums [IntKind.u8.wrap d0, IntKind.u8.wrap (Int.fdiv d0 ((2 : Int) ^ (8 : Nat))), IntKind.u8.wrap (Int.fdiv d0 ((2 : Int) ^ (16 : Nat))), IntKind.u8.wrap (Int.fdiv d0 ((2 : Int) ^ (24 : Nat)))]).toList))
    (some ((((0 : Int), (0 : Int), (0 : Int), ByteArray.empty), (2 : Int), false)))
    (gd (inb (0 : Int) s.size)
     (gd (inb (1 : Int) s.size)
      (gd (inb (2 : Int) s.size)
       (gd (inb (3 : Int) s.size)
        (gd (inb (4 : Int) s.size)
         (gd (inb (5 : Int) s.size)
          (gd (true && (decide ((6 : Int) ≤ IntKind.i64.wrap ((6 : Int) + cn (decide (IntKind.i64.wrap (↑(s.data.getD (5 : Nat) (0 : UInt8)).toNat : Int) < (16 : Int))) (IntKind.i64.wrap (↑(s.data.getD (5 : Nat) (0 : UInt8)).toNat : Int)) (16 : Int))) && decide (IntKind.i64.wrap ((6 : Int) + cn (decide (IntKind.i64.wrap (↑(s.data.getD (5 : Nat) (0 : UInt8)).toNat : Int) < (16 : Int))) (IntKind.i64.wrap (↑(s.data.getD (5 : Nat) (0 : UInt8)).toNat : Int)) (16 : Int)) ≤ (↑s.size : Int))))
           ((i_GoodFrame.f k (IntKind.i64.wrap (↑(s.data.getD (0 : Nat) (0 : UInt8)).toNat : Int)) (IntKind.i64.wrap (↑(BitVec.ofInt (64 : Nat) (IntKind.i64.wrap (IntKind.i64.wrap (↑(s.data.getD (1 : Nat) (0 : UInt8)).toNat : Int) * (2 : Int) ^ (8 : Nat))) ||| BitVec.ofInt (64 : Nat) (IntKind.i64.wrap (↑(s.data.getD (2 : Nat) (0 : UInt8)).toNat : Int))).toNat : Int)) (IntKind.i64.wrap (↑(BitVec.ofInt (64 : Nat) (IntKind.i64.wrap (IntKind.i64.wrap (↑(s.data.getD (3 : Nat) (0 : UInt8)).toNat : Int) * (2 : Int) ^ (8 : Nat))) ||| BitVec.ofInt (64 : Nat) (IntKind.i64.wrap (↑(s.data.getD (4 : Nat) (0 : UInt8)).toNat : Int))).toNat : Int)) (s.extract (6 : Nat) (IntKind.i64.wrap ((6 : Int) + cn (decide (IntKind.i64.wrap (↑(s.data.getD (5 : Nat) (0 : UInt8)).toNat : Int) < (16 : Int))) (IntKind.i64.wrap (↑(s.data.getD (5 : Nat) (0 : UInt8)).toNat : Int)) (16 : Int))).toNat)).bind fun d1 =>
            cn (!d1)
            (some ((((0 : Int), (0 : Int), (0 : Int), ByteArray.empty), (3 : Int), false)))
            ((i_frameBytes.f k (IntKind.i64.wrap (↑(s.data.getD (0 : Nat) (0 : UInt8)).toNat : Int)) (IntKind.i64.wrap (↑(BitVec.ofInt (64 : Nat) (IntKind.i64.wrap (IntKind.i64.wrap (↑(s.data.getD (1 : Nat) (0 : UInt8)).toNat : Int) * (2 : Int) ^ (8 : Nat))) ||| BitVec.ofInt (64 : Nat) (IntKind.i64.wrap (↑(s.data.getD (2 : Nat) (0 : UInt8)).toNat : Int))).toNat : Int)) (IntKind.i64.wrap (↑(BitVec.ofInt (64 : Nat) (IntKind.i64.wrap (IntKind.i64.wrap (↑(s.data.getD (3 : Nat) (0 : UInt8)).toNat : Int) * (2 : Int) ^ (8 : Nat))) ||| BitVec.ofInt (64 : Nat) (IntKind.i64.wrap (↑(s.data.getD (4 : Nat) (0 : UInt8)).toNat : Int))).toNat : Int)) (s.extract (6 : Nat) (IntKind.i64.wrap ((6 : Int) + cn (decide (IntKind.i64.wrap (↑(s.data.getD (5 : Nat) (0 : UInt8)).toNat : Int) < (16 : Int))) (IntKind.i64.wrap (↑(s.data.getD (5 : Nat) (0 : UInt8)).toNat : Int)) (16 : Int))).toNat)).bind fun d2 =>
             cn (!decide (ByteArray.toList d2 = s.toList))
             (some ((((0 : Int), (0 : Int), (0 : Int), ByteArray.empty), (3 : Int), false)))
             (some (((IntKind.i64.wrap (↑(s.data.getD (0 : Nat) (0 : UInt8)).toNat : Int), IntKind.i64.wrap (↑(BitVec.ofInt (64 : Nat) (IntKind.i64.wrap (IntKind.i64.wrap (↑(s.data.getD (1 : Nat) (0 : UInt8)).toNat : Int) * (2 : Int) ^ (8 : Nat))) ||| BitVec.ofInt (64 : Nat) (IntKind.i64.wrap (↑(s.data.getD (2 : Nat) (0 : UInt8)).toNat : Int))).toNat : Int), IntKind.i64.wrap (↑(BitVec.ofInt (64 : Nat) (IntKind.i64.wrap (IntKind.i64.wrap (↑(s.data.getD (3 : Nat) (0 : UInt8)).toNat : Int) * (2 : Int) ^ (8 : Nat))) ||| BitVec.ofInt (64 : Nat) (IntKind.i64.wrap (↑(s.data.getD (4 : Nat) (0 : UInt8)).toNat : Int))).toNat : Int), s.extract (6 : Nat) (IntKind.i64.wrap ((6 : Int) + cn (decide (IntKind.i64.wrap (↑(s.data.getD (5 : Nat) (0 : UInt8)).toNat : Int) < (16 : Int))) (IntKind.i64.wrap (↑(s.data.getD (5 : Nat) (0 : UInt8)).toNat : Int)) (16 : Int))).toNat), (0 : Int), true))))))))))))))) := (opq_eq _).trans (by kernel_rfl)
abbrev i_CheckFrame.s : Sig := ⟨76, [], [.val, .val, .val, .val], [.one .str, .one (.int .i64), .one (.int .i64), .one (.int .i64)], [.agg [.int .i64, .int .i64, .int .i64, .str], .one (.int .i64), .one .bool], [], []⟩
noncomputable def i_CheckFrame.C (k : Nat) : List (Nat × Ctr) := [(108, i_ReadFrame.s.ctr (fun x => i_ReadFrame.f k x))]
noncomputable def i_CheckFrame.f (k : Nat) (s : ByteArray) (kind : Int) (at_ : Int) (least : Int) : Option ((Int × Int × Int × ByteArray) × Int × Bool) := opq (i_CheckFrame.s.run Try.prog (i_CheckFrame.C k) k (s, kind, at_, least))
theorem i_CheckFrame.ok (k : Nat) : CtrOk Try.prog 76 (i_CheckFrame.s.ctr (fun x => i_CheckFrame.f k x.1 x.2.1 x.2.2.1 x.2.2.2)) := sig_ok i_CheckFrame.s (.cons (i_ReadFrame.ok k) .nil) (by kernel_rfl) fun _ => opq_eq _
theorem i_CheckFrame.f_eq (k : Nat) (s : ByteArray) (kind : Int) (at_ : Int) (least : Int) : i_CheckFrame.f k s kind at_ least =
 (i_ReadFrame.f k s).bind fun d0 =>
 cn (!d0.snd.snd)
 (cn (!decide (d0.snd.fst = (0 : Int)))
  (some ((((0 : Int), (0 : Int), (0 : Int), ByteArray.empty), d0.snd.fst, false)))
  (some (((d0.fst.fst, d0.fst.snd.fst, d0.fst.snd.snd.fst, d0.fst.snd.snd.snd), (0 : Int), true))))
 (cn (!decide (d0.fst.fst = kind))
  (some ((((0 : Int), (0 : Int), (0 : Int), ByteArray.empty), (3 : Int), false)))
  (cn (!decide (d0.fst.snd.fst = at_))
   (some ((((0 : Int), (0 : Int), (0 : Int), ByteArray.empty), (4 : Int), false)))
   (cn (decide (d0.fst.snd.snd.fst < least))
    (some ((((0 : Int), (0 : Int), (0 : Int), ByteArray.empty), (5 : Int), false)))
    (cn (!decide (d0.snd.fst = (0 : Int)))
     (some ((((0 : Int), (0 : Int), (0 : Int), ByteArray.empty), d0.snd.fst, false)))
     (some (((d0.fst.fst, d0.fst.snd.fst, d0.fst.snd.snd.fst, d0.fst.snd.snd.snd), (0 : Int), true))))))) := (opq_eq _).trans (by kernel_rfl)
abbrev i_halfOf.s : Sig := ⟨77, [], [.val], [.one (.int .i64)], [.one (.int .i64)], [], []⟩
noncomputable def i_halfOf.C (k : Nat) : List (Nat × Ctr) := []
noncomputable def i_halfOf.f (k : Nat) (epoch : Int) : Option Int := opq (i_halfOf.s.run Try.prog (i_halfOf.C k) k epoch)
theorem i_halfOf.ok (k : Nat) : CtrOk Try.prog 77 (i_halfOf.s.ctr (fun x => i_halfOf.f k x)) := sig_ok i_halfOf.s .nil (by kernel_rfl) fun _ => opq_eq _
theorem i_halfOf.f_eq (k : Nat) (epoch : Int) : i_halfOf.f k epoch =
 some (IntKind.i64.wrap ((1 : Int) + IntKind.i64.wrap ((2 : Int) * epoch.tmod (2 : Int)))) := (opq_eq _).trans (by kernel_rfl)
abbrev i_StateFrom.s : Sig := ⟨21, [], [.val], [.one (.row 9 .str)], [.one (.own 3 (.int .i64)), .one .bool], [], []⟩
noncomputable def i_StateFrom.f (k : Nat) (l : List ByteArray) : Option (List Int × Bool) := sfF l
theorem i_StateFrom.ok (k : Nat) : CtrOk Try.prog 21 (i_StateFrom.s.ctr fun x => i_StateFrom.f k x) := sf_ctr
abbrev i_RecoverFrom.s : Sig := ⟨31, [], [.val], [.agg [.row 9 .str, .row 9 .str, .row 4 .bool]], [.one (.own 3 (.int .i64)), .one (.int .i64), .one .bool], [], [(0, [(1,false),(7,false),(10,true),(42,false)])]⟩
noncomputable def i_RecoverFrom.C (k : Nat) : List (Nat × Ctr) := [(21, i_StateFrom.s.ctr (fun x => i_StateFrom.f k x)), (74, i_GoodDisk.s.ctr (fun x => i_GoodDisk.f k x.1 x.2.1 x.2.2)), (75, i_ReadSector.s.ctr (fun x => i_ReadSector.f k x.1.1 x.1.2.1 x.1.2.2 x.2)), (76, i_CheckFrame.s.ctr (fun x => i_CheckFrame.f k x.1 x.2.1 x.2.2.1 x.2.2.2)), (77, i_halfOf.s.ctr (fun x => i_halfOf.f k x))]
noncomputable def i_RecoverFrom.f (k : Nat) (d_Plate : List ByteArray) (d_Held : List ByteArray) (d_Bad : List Bool) : Option (List Int × Int × Bool) := opq (i_RecoverFrom.s.run Try.prog (i_RecoverFrom.C k) k (d_Plate, d_Held, d_Bad))
theorem i_RecoverFrom.ok (k : Nat) : CtrOk Try.prog 31 (i_RecoverFrom.s.ctr (fun x => i_RecoverFrom.f k x.1 x.2.1 x.2.2)) := sig_ok i_RecoverFrom.s (.cons (i_StateFrom.ok k) (.cons (i_GoodDisk.ok k) (.cons (i_ReadSector.ok k) (.cons (i_CheckFrame.ok k) (.cons (i_halfOf.ok k) .nil))))) (by kernel_rfl) fun _ => opq_eq _
noncomputable def i_RecoverFrom.l0 (k : Nat) (m : Nat) (t42 : Int) (h1 : List ByteArray) (h1_ : List ByteArray) (h1__ : List Bool) (h2 : Int) (h2_ : Int) (h2__ : Int) (h2___ : ByteArray) (h3 : List ByteArray) : Option (List Int × Int × Bool) := i_RecoverFrom.s.head Try.prog (i_RecoverFrom.C k) k 1 0 [] m [(1, AV.ptr 1 0 0), (7, AV.ptr 2 0 0), (10, AV.ref 3), (42, AV.int IntKind.i64 t42)] [Root.dead, Root.box 38 [AV.row 9 Kind.str h1, AV.row 9 Kind.str h1_, AV.row 4 Kind.bool h1__], Root.box 98 [AV.int IntKind.i64 h2, AV.int IntKind.i64 h2_, AV.int IntKind.i64 h2__, AV.str h2___], Root.rows 9 Kind.str h3]
theorem i_RecoverFrom.l0_z (k : Nat) (t42 : Int) (h1 : List ByteArray) (h1_ : List ByteArray) (h1__ : List Bool) (h2 : Int) (h2_ : Int) (h2__ : Int) (h2___ : ByteArray) (h3 : List ByteArray) : i_RecoverFrom.l0 k 0 t42 h1 h1_ h1__ h2 h2_ h2__ h2___ h3 = none := by kernel_rfl
theorem i_RecoverFrom.l0_s (k : Nat) (m : Nat) (t42 : Int) (h1 : List ByteArray) (h1_ : List ByteArray) (h1__ : List Bool) (h2 : Int) (h2_ : Int) (h2__ : Int) (h2___ : ByteArray) (h3 : List ByteArray) : i_RecoverFrom.l0 k (m + 1) t42 h1 h1_ h1__ h2 h2_ h2__ h2___ h3 =
 cn (decide (t42 < (2 : Int)))
 ((i_halfOf.f k h2__).bind fun d4 =>
  (i_ReadSector.f k h1 h1_ h1__ (IntKind.i64.wrap (d4 + t42))).bind fun d5 =>
  (i_CheckFrame.f k d5.fst (3 : Int) (IntKind.i64.wrap (d4 + t42)) h2__).bind fun d6 =>
  cn (!d6.snd.snd)
  (some (([], (0 : Int), false)))
  (cn (!decide (d6.fst.snd.snd.fst = h2__))
   (some (([], (0 : Int), false)))
   (gd (appOk (h3.length + [d6.fst.snd.snd.snd].length) (Try.prog.bytesOf (9 : Nat)))
    (i_RecoverFrom.l0 k m (IntKind.i64.wrap (t42 + (1 : Int))) h1 h1_ h1__ h2 h2_ h2__ h2___ (h3 ++ [d6.fst.snd.snd.snd])))))
 ((i_StateFrom.f k h3).bind fun d3 =>
  cn (!d3.snd)
  (some (([], (0 : Int), false)))
  (some ((d3.fst, h2__, true)))) := by kernel_rfl
theorem i_RecoverFrom.f_eq (k : Nat) (d_Plate : List ByteArray) (d_Held : List ByteArray) (d_Bad : List Bool) : i_RecoverFrom.f k d_Plate d_Held d_Bad =
 (i_GoodDisk.f k d_Plate d_Held d_Bad).bind fun d0 =>
 cn (!d0)
 (some (([], (0 : Int), false)))
 (cn (!decide ((↑d_Plate.length : Int) = (5 : Int)))
  (some (([], (0 : Int), false)))
  ((i_ReadSector.f k d_Plate d_Held d_Bad (0 : Int)).bind fun d1 =>
   (i_CheckFrame.f k d1.fst (4 : Int) (0 : Int) (0 : Int)).bind fun d2 =>
   cn (!d2.snd.snd)
   (some (([], (0 : Int), false)))
   (i_RecoverFrom.l0 k k ((0 : Int)) d_Plate d_Held d_Bad d2.fst.fst d2.fst.snd.fst d2.fst.snd.snd.fst d2.fst.snd.snd.snd ([])))) := (opq_eq _).trans (by kernel_rfl)
abbrev b_Equal_int.s : Sig := ⟨85, [], [.val, .val], [.one (.row 3 (.int .i64)), .one (.row 3 (.int .i64))], [.one .bool], [], [(0, [(0,false),(1,false),(12,false),(13,false)])]⟩
noncomputable def b_Equal_int.C (k : Nat) : List (Nat × Ctr) := []
noncomputable def b_Equal_int.f (k : Nat) (s1 : List Int) (s2 : List Int) : Option Bool := opq (b_Equal_int.s.run Try.prog (b_Equal_int.C k) k (s1, s2))
theorem b_Equal_int.ok (k : Nat) : CtrOk Try.prog 85 (b_Equal_int.s.ctr (fun x => b_Equal_int.f k x.1 x.2)) := sig_ok b_Equal_int.s .nil (by kernel_rfl) fun _ => opq_eq _
noncomputable def b_Equal_int.l0 (k : Nat) (m : Nat) (s10 : List Int) (s21 : List Int) (t12 : Int) (t13 : Int) : Option Bool := b_Equal_int.s.head Try.prog (b_Equal_int.C k) k 1 0 [] m [(0, AV.row 3 (Kind.int IntKind.i64) s10), (1, AV.row 3 (Kind.int IntKind.i64) s21), (12, AV.int IntKind.i64 t12), (13, AV.int IntKind.i64 t13)] [Root.dead]
theorem b_Equal_int.l0_z (k : Nat) (s10 : List Int) (s21 : List Int) (t12 : Int) (t13 : Int) : b_Equal_int.l0 k 0 s10 s21 t12 t13 = none := by kernel_rfl
theorem b_Equal_int.l0_s (k : Nat) (m : Nat) (s10 : List Int) (s21 : List Int) (t12 : Int) (t13 : Int) : b_Equal_int.l0 k (m + 1) s10 s21 t12 t13 =
 cn (decide (t13 < t12))
 (gd (inb t13 s10.length)
  (gd (inb t13 s21.length)
   (cn (!decide (getAt (0 : Int) s10 t13.toNat = getAt (0 : Int) s21 t13.toNat))
    (some false)
    (b_Equal_int.l0 k m s10 s21 t12 (IntKind.i64.wrap (t13 + (1 : Int)))))))
 (some true) := by kernel_rfl
theorem b_Equal_int.f_eq (k : Nat) (s1 : List Int) (s2 : List Int) : b_Equal_int.f k s1 s2 =
 cn (!decide ((↑s1.length : Int) = (↑s2.length : Int)))
 (some false)
 (b_Equal_int.l0 k k s1 s2 ((↑s1.length : Int)) ((0 : Int))) := (opq_eq _).trans (by kernel_rfl)
abbrev i_GoodJournal.s : Sig := ⟨37, [], [.val], [.agg [.row 9 .str, .row 9 .str, .row 4 .bool, .int .i64, .int .i64, .row 3 (.int .i64), .row 3 (.int .i64)]], [.one .bool], [], []⟩
noncomputable def i_GoodJournal.C (k : Nat) : List (Nat × Ctr) := [(31, i_RecoverFrom.s.ctr (fun x => i_RecoverFrom.f k x.1 x.2.1 x.2.2)), (56, i_isState.s.ctr (fun x => i_isState.f k x)), (74, i_GoodDisk.s.ctr (fun x => i_GoodDisk.f k x.1 x.2.1 x.2.2)), (82, b_Contains_bool.s.ctr (fun x => b_Contains_bool.f k x.1 x.2)), (83, i_within.s.ctr (fun x => i_within.f k x.1 x.2.1 x.2.2)), (84, i_crashed.s.ctr (fun x => i_crashed.f k x.1.1 x.1.2.1 x.1.2.2 x.2)), (85, b_Equal_int.s.ctr (fun x => b_Equal_int.f k x.1 x.2))]
noncomputable def i_GoodJournal.f (k : Nat) (j_Disk_Plate : List ByteArray) (j_Disk_Held : List ByteArray) (j_Disk_Bad : List Bool) (j_Epoch : Int) (j_Phase : Int) (j_Acked : List Int) (j_Coming : List Int) : Option Bool := opq (i_GoodJournal.s.run Try.prog (i_GoodJournal.C k) k (j_Disk_Plate, j_Disk_Held, j_Disk_Bad, j_Epoch, j_Phase, j_Acked, j_Coming))
theorem i_GoodJournal.ok (k : Nat) : CtrOk Try.prog 37 (i_GoodJournal.s.ctr (fun x => i_GoodJournal.f k x.1 x.2.1 x.2.2.1 x.2.2.2.1 x.2.2.2.2.1 x.2.2.2.2.2.1 x.2.2.2.2.2.2)) := sig_ok i_GoodJournal.s (.cons (i_RecoverFrom.ok k) (.cons (i_isState.ok k) (.cons (i_GoodDisk.ok k) (.cons (b_Contains_bool.ok k) (.cons (i_within.ok k) (.cons (i_crashed.ok k) (.cons (b_Equal_int.ok k) .nil))))))) (by kernel_rfl) fun _ => opq_eq _
theorem i_GoodJournal.f_eq (k : Nat) (j_Disk_Plate : List ByteArray) (j_Disk_Held : List ByteArray) (j_Disk_Bad : List Bool) (j_Epoch : Int) (j_Phase : Int) (j_Acked : List Int) (j_Coming : List Int) : i_GoodJournal.f k j_Disk_Plate j_Disk_Held j_Disk_Bad j_Epoch j_Phase j_Acked j_Coming =
 (i_GoodDisk.f k j_Disk_Plate j_Disk_Held j_Disk_Bad).bind fun d0 =>
 cn (!d0)
 (some false)
 (cn (!decide ((↑j_Disk_Plate.length : Int) = (5 : Int)))
  (some false)
  ((b_Contains_bool.f k j_Disk_Bad true).bind fun d1 =>
   cn d1
   (some false)
   ((i_within.f k j_Phase (0 : Int) (3 : Int)).bind fun d2 =>
    cn (!d2)
    (some false)
    ((i_isState.f k j_Acked).bind fun d3 =>
     cn (!d3)
     (some false)
     (cn (decide (j_Phase = (0 : Int)))
      (cn (decide ((0 : Int) < (↑j_Coming.length : Int)))
       (some false)
       (cn (decide ((0 : Int) < j_Phase))
        ((i_isState.f k j_Coming).bind fun d14 =>
         cn (!d14)
         (some false)
         ((i_crashed.f k j_Disk_Plate j_Disk_Held j_Disk_Bad []).bind fun d15 =>
          (i_RecoverFrom.f k d15.fst d15.snd.fst d15.snd.snd).bind fun d16 =>
          cn d16.snd.snd
          (cn (decide (d16.snd.fst = j_Epoch))
           ((b_Equal_int.f k d16.fst j_Acked).bind fun d17 =>
            some d17)
           (some false))
          (some false)))
        ((i_crashed.f k j_Disk_Plate j_Disk_Held j_Disk_Bad []).bind fun d11 =>
         (i_RecoverFrom.f k d11.fst d11.snd.fst d11.snd.snd).bind fun d12 =>
         cn d12.snd.snd
         (cn (decide (d12.snd.fst = j_Epoch))
          ((b_Equal_int.f k d12.fst j_Acked).bind fun d13 =>
           some d13)
          (some false))
         (some false))))
      (cn (decide ((0 : Int) < j_Phase))
       ((i_isState.f k j_Coming).bind fun d7 =>
        cn (!d7)
        (some false)
        ((i_crashed.f k j_Disk_Plate j_Disk_Held j_Disk_Bad []).bind fun d8 =>
         (i_RecoverFrom.f k d8.fst d8.snd.fst d8.snd.snd).bind fun d9 =>
         cn d9.snd.snd
         (cn (decide (d9.snd.fst = j_Epoch))
          ((b_Equal_int.f k d9.fst j_Acked).bind fun d10 =>
           some d10)
          (some false))
         (some false)))
       ((i_crashed.f k j_Disk_Plate j_Disk_Held j_Disk_Bad []).bind fun d4 =>
        (i_RecoverFrom.f k d4.fst d4.snd.fst d4.snd.snd).bind fun d5 =>
        cn d5.snd.snd
        (cn (decide (d5.snd.fst = j_Epoch))
         ((b_Equal_int.f k d5.fst j_Acked).bind fun d6 =>
          some d6)
         (some false))
        (some false)))))))) := (opq_eq _).trans (by kernel_rfl)
abbrev w_eqStringS.s : Sig := ⟨13, [], [.val, .val], [.one (.row 9 .str), .one (.row 9 .str)], [.one .bool], [], [(0, [(0,false),(1,false),(5,false)])]⟩
noncomputable def w_eqStringS.C (k : Nat) : List (Nat × Ctr) := []
noncomputable def w_eqStringS.f (k : Nat) (a : List ByteArray) (b : List ByteArray) : Option Bool := opq (w_eqStringS.s.run Try.prog (w_eqStringS.C k) k (a, b))
theorem w_eqStringS.ok (k : Nat) : CtrOk Try.prog 13 (w_eqStringS.s.ctr (fun x => w_eqStringS.f k x.1 x.2)) := sig_ok w_eqStringS.s .nil (by kernel_rfl) fun _ => opq_eq _
noncomputable def w_eqStringS.l0 (k : Nat) (m : Nat) (a0 : List ByteArray) (b1 : List ByteArray) (i5 : Int) : Option Bool := w_eqStringS.s.head Try.prog (w_eqStringS.C k) k 1 0 [] m [(0, AV.row 9 Kind.str a0), (1, AV.row 9 Kind.str b1), (5, AV.int IntKind.i64 i5)] [Root.dead]
theorem w_eqStringS.l0_z (k : Nat) (a0 : List ByteArray) (b1 : List ByteArray) (i5 : Int) : w_eqStringS.l0 k 0 a0 b1 i5 = none := by kernel_rfl
theorem w_eqStringS.l0_s (k : Nat) (m : Nat) (a0 : List ByteArray) (b1 : List ByteArray) (i5 : Int) : w_eqStringS.l0 k (m + 1) a0 b1 i5 =
 cn (decide (i5 < (↑a0.length : Int)))
 (gd (inb i5 a0.length)
  (gd (inb i5 b1.length)
   (cn (!decide ((getAt ByteArray.empty a0 i5.toNat).toList = (getAt ByteArray.empty b1 i5.toNat).toList))
    (some false)
    (w_eqStringS.l0 k m a0 b1 (IntKind.i64.wrap (i5 + (1 : Int)))))))
 (some true) := by kernel_rfl
theorem w_eqStringS.f_eq (k : Nat) (a : List ByteArray) (b : List ByteArray) : w_eqStringS.f k a b =
 cn (!decide ((↑a.length : Int) = (↑b.length : Int)))
 (some false)
 (w_eqStringS.l0 k k a b ((0 : Int))) := (opq_eq _).trans (by kernel_rfl)
abbrev w_eqBoolS.s : Sig := ⟨49, [], [.val, .val], [.one (.row 4 .bool), .one (.row 4 .bool)], [.one .bool], [], [(0, [(0,false),(1,false),(5,false)])]⟩
noncomputable def w_eqBoolS.C (k : Nat) : List (Nat × Ctr) := []
noncomputable def w_eqBoolS.f (k : Nat) (a : List Bool) (b : List Bool) : Option Bool := opq (w_eqBoolS.s.run Try.prog (w_eqBoolS.C k) k (a, b))
theorem w_eqBoolS.ok (k : Nat) : CtrOk Try.prog 49 (w_eqBoolS.s.ctr (fun x => w_eqBoolS.f k x.1 x.2)) := sig_ok w_eqBoolS.s .nil (by kernel_rfl) fun _ => opq_eq _
noncomputable def w_eqBoolS.l0 (k : Nat) (m : Nat) (a0 : List Bool) (b1 : List Bool) (i5 : Int) : Option Bool := w_eqBoolS.s.head Try.prog (w_eqBoolS.C k) k 1 0 [] m [(0, AV.row 4 Kind.bool a0), (1, AV.row 4 Kind.bool b1), (5, AV.int IntKind.i64 i5)] [Root.dead]
theorem w_eqBoolS.l0_z (k : Nat) (a0 : List Bool) (b1 : List Bool) (i5 : Int) : w_eqBoolS.l0 k 0 a0 b1 i5 = none := by kernel_rfl
theorem w_eqBoolS.l0_s (k : Nat) (m : Nat) (a0 : List Bool) (b1 : List Bool) (i5 : Int) : w_eqBoolS.l0 k (m + 1) a0 b1 i5 =
 cn (decide (i5 < (↑a0.length : Int)))
 (gd (inb i5 a0.length)
  (gd (inb i5 b1.length)
   (cn (!getAt false a0 i5.toNat == getAt false b1 i5.toNat)
    (some false)
    (w_eqBoolS.l0 k m a0 b1 (IntKind.i64.wrap (i5 + (1 : Int)))))))
 (some true) := by kernel_rfl
theorem w_eqBoolS.f_eq (k : Nat) (a : List Bool) (b : List Bool) : w_eqBoolS.f k a b =
 cn (!decide ((↑a.length : Int) = (↑b.length : Int)))
 (some false)
 (w_eqBoolS.l0 k k a b ((0 : Int))) := (opq_eq _).trans (by kernel_rfl)
abbrev w_eqDisk.s : Sig := ⟨32, [], [.val, .val], [.agg [.row 9 .str, .row 9 .str, .row 4 .bool], .agg [.row 9 .str, .row 9 .str, .row 4 .bool]], [.one .bool], [], []⟩
noncomputable def w_eqDisk.C (k : Nat) : List (Nat × Ctr) := [(13, w_eqStringS.s.ctr (fun x => w_eqStringS.f k x.1 x.2)), (49, w_eqBoolS.s.ctr (fun x => w_eqBoolS.f k x.1 x.2))]
noncomputable def w_eqDisk.f (k : Nat) (a_Plate : List ByteArray) (a_Held : List ByteArray) (a_Bad : List Bool) (b_Plate : List ByteArray) (b_Held : List ByteArray) (b_Bad : List Bool) : Option Bool := opq (w_eqDisk.s.run Try.prog (w_eqDisk.C k) k ((a_Plate, a_Held, a_Bad), (b_Plate, b_Held, b_Bad)))
theorem w_eqDisk.ok (k : Nat) : CtrOk Try.prog 32 (w_eqDisk.s.ctr (fun x => w_eqDisk.f k x.1.1 x.1.2.1 x.1.2.2 x.2.1 x.2.2.1 x.2.2.2)) := sig_ok w_eqDisk.s (.cons (w_eqStringS.ok k) (.cons (w_eqBoolS.ok k) .nil)) (by kernel_rfl) fun _ => opq_eq _
theorem w_eqDisk.f_eq (k : Nat) (a_Plate : List ByteArray) (a_Held : List ByteArray) (a_Bad : List Bool) (b_Plate : List ByteArray) (b_Held : List ByteArray) (b_Bad : List Bool) : w_eqDisk.f k a_Plate a_Held a_Bad b_Plate b_Held b_Bad =
 (w_eqStringS.f k a_Plate b_Plate).bind fun d0 =>
 cn (!d0)
 (some false)
 ((w_eqStringS.f k a_Held b_Held).bind fun d1 =>
  cn (!d1)
  (some false)
  ((w_eqBoolS.f k a_Bad b_Bad).bind fun d2 =>
   cn (!d2)
   (some false)
   (some true))) := (opq_eq _).trans (by kernel_rfl)
abbrev w_eqIntS.s : Sig := ⟨14, [], [.val, .val], [.one (.row 3 (.int .i64)), .one (.row 3 (.int .i64))], [.one .bool], [], [(0, [(0,false),(1,false),(5,false)])]⟩
noncomputable def w_eqIntS.C (k : Nat) : List (Nat × Ctr) := []
noncomputable def w_eqIntS.f (k : Nat) (a : List Int) (b : List Int) : Option Bool := opq (w_eqIntS.s.run Try.prog (w_eqIntS.C k) k (a, b))
theorem w_eqIntS.ok (k : Nat) : CtrOk Try.prog 14 (w_eqIntS.s.ctr (fun x => w_eqIntS.f k x.1 x.2)) := sig_ok w_eqIntS.s .nil (by kernel_rfl) fun _ => opq_eq _
noncomputable def w_eqIntS.l0 (k : Nat) (m : Nat) (a0 : List Int) (b1 : List Int) (i5 : Int) : Option Bool := w_eqIntS.s.head Try.prog (w_eqIntS.C k) k 1 0 [] m [(0, AV.row 3 (Kind.int IntKind.i64) a0), (1, AV.row 3 (Kind.int IntKind.i64) b1), (5, AV.int IntKind.i64 i5)] [Root.dead]
theorem w_eqIntS.l0_z (k : Nat) (a0 : List Int) (b1 : List Int) (i5 : Int) : w_eqIntS.l0 k 0 a0 b1 i5 = none := by kernel_rfl
theorem w_eqIntS.l0_s (k : Nat) (m : Nat) (a0 : List Int) (b1 : List Int) (i5 : Int) : w_eqIntS.l0 k (m + 1) a0 b1 i5 =
 cn (decide (i5 < (↑a0.length : Int)))
 (gd (inb i5 a0.length)
  (gd (inb i5 b1.length)
   (cn (!decide (getAt (0 : Int) a0 i5.toNat = getAt (0 : Int) b1 i5.toNat))
    (some false)
    (w_eqIntS.l0 k m a0 b1 (IntKind.i64.wrap (i5 + (1 : Int)))))))
 (some true) := by kernel_rfl
theorem w_eqIntS.f_eq (k : Nat) (a : List Int) (b : List Int) : w_eqIntS.f k a b =
 cn (!decide ((↑a.length : Int) = (↑b.length : Int)))
 (some false)
 (w_eqIntS.l0 k k a b ((0 : Int))) := (opq_eq _).trans (by kernel_rfl)
abbrev w_eqJournal.s : Sig := ⟨25, [], [.val, .val], [.agg [.row 9 .str, .row 9 .str, .row 4 .bool, .int .i64, .int .i64, .row 3 (.int .i64), .row 3 (.int .i64)], .agg [.row 9 .str, .row 9 .str, .row 4 .bool, .int .i64, .int .i64, .row 3 (.int .i64), .row 3 (.int .i64)]], [.one .bool], [], []⟩
noncomputable def w_eqJournal.C (k : Nat) : List (Nat × Ctr) := [(14, w_eqIntS.s.ctr (fun x => w_eqIntS.f k x.1 x.2)), (32, w_eqDisk.s.ctr (fun x => w_eqDisk.f k x.1.1 x.1.2.1 x.1.2.2 x.2.1 x.2.2.1 x.2.2.2))]
noncomputable def w_eqJournal.f (k : Nat) (a_Disk_Plate : List ByteArray) (a_Disk_Held : List ByteArray) (a_Disk_Bad : List Bool) (a_Epoch : Int) (a_Phase : Int) (a_Acked : List Int) (a_Coming : List Int) (b_Disk_Plate : List ByteArray) (b_Disk_Held : List ByteArray) (b_Disk_Bad : List Bool) (b_Epoch : Int) (b_Phase : Int) (b_Acked : List Int) (b_Coming : List Int) : Option Bool := opq (w_eqJournal.s.run Try.prog (w_eqJournal.C k) k ((a_Disk_Plate, a_Disk_Held, a_Disk_Bad, a_Epoch, a_Phase, a_Acked, a_Coming), (b_Disk_Plate, b_Disk_Held, b_Disk_Bad, b_Epoch, b_Phase, b_Acked, b_Coming)))
theorem w_eqJournal.ok (k : Nat) : CtrOk Try.prog 25 (w_eqJournal.s.ctr (fun x => w_eqJournal.f k x.1.1 x.1.2.1 x.1.2.2.1 x.1.2.2.2.1 x.1.2.2.2.2.1 x.1.2.2.2.2.2.1 x.1.2.2.2.2.2.2 x.2.1 x.2.2.1 x.2.2.2.1 x.2.2.2.2.1 x.2.2.2.2.2.1 x.2.2.2.2.2.2.1 x.2.2.2.2.2.2.2)) := sig_ok w_eqJournal.s (.cons (w_eqIntS.ok k) (.cons (w_eqDisk.ok k) .nil)) (by kernel_rfl) fun _ => opq_eq _
theorem w_eqJournal.f_eq (k : Nat) (a_Disk_Plate : List ByteArray) (a_Disk_Held : List ByteArray) (a_Disk_Bad : List Bool) (a_Epoch : Int) (a_Phase : Int) (a_Acked : List Int) (a_Coming : List Int) (b_Disk_Plate : List ByteArray) (b_Disk_Held : List ByteArray) (b_Disk_Bad : List Bool) (b_Epoch : Int) (b_Phase : Int) (b_Acked : List Int) (b_Coming : List Int) : w_eqJournal.f k a_Disk_Plate a_Disk_Held a_Disk_Bad a_Epoch a_Phase a_Acked a_Coming b_Disk_Plate b_Disk_Held b_Disk_Bad b_Epoch b_Phase b_Acked b_Coming =
 (w_eqDisk.f k a_Disk_Plate a_Disk_Held a_Disk_Bad b_Disk_Plate b_Disk_Held b_Disk_Bad).bind fun d0 =>
 cn (!d0)
 (some false)
 (cn (!decide (a_Epoch = b_Epoch))
  (some false)
  (cn (!decide (a_Phase = b_Phase))
   (some false)
   ((w_eqIntS.f k a_Acked b_Acked).bind fun d1 =>
    cn (!d1)
    (some false)
    ((w_eqIntS.f k a_Coming b_Coming).bind fun d2 =>
     cn (!d2)
     (some false)
     (some true))))) := (opq_eq _).trans (by kernel_rfl)
abbrev w_FnExactGoodJournal.s : Sig := ⟨7, [], [.val], [.agg [.row 9 .str, .row 9 .str, .row 4 .bool, .int .i64, .int .i64, .row 3 (.int .i64), .row 3 (.int .i64)]], [.one .bool], [], []⟩
noncomputable def w_FnExactGoodJournal.C (k : Nat) : List (Nat × Ctr) := [(25, w_eqJournal.s.ctr (fun x => w_eqJournal.f k x.1.1 x.1.2.1 x.1.2.2.1 x.1.2.2.2.1 x.1.2.2.2.2.1 x.1.2.2.2.2.2.1 x.1.2.2.2.2.2.2 x.2.1 x.2.2.1 x.2.2.2.1 x.2.2.2.2.1 x.2.2.2.2.2.1 x.2.2.2.2.2.2.1 x.2.2.2.2.2.2.2)), (34, w_szJournal.s.ctr (fun x => w_szJournal.f k x.1.1 x.1.2.1 x.1.2.2.1 x.1.2.2.2.1 x.1.2.2.2.2.1 x.1.2.2.2.2.2.1 x.1.2.2.2.2.2.2 x.2)), (35, s_GoodJournal.s.ctr (fun x => s_GoodJournal.f k x.1 x.2.1 x.2.2.1 x.2.2.2.1 x.2.2.2.2.1 x.2.2.2.2.2.1 x.2.2.2.2.2.2)), (36, w_toJournal.s.ctr (fun x => w_toJournal.f k x.1 x.2.1 x.2.2.1 x.2.2.2.1 x.2.2.2.2.1 x.2.2.2.2.2.1 x.2.2.2.2.2.2)), (37, i_GoodJournal.s.ctr (fun x => i_GoodJournal.f k x.1 x.2.1 x.2.2.1 x.2.2.2.1 x.2.2.2.2.1 x.2.2.2.2.2.1 x.2.2.2.2.2.2))]
noncomputable def w_FnExactGoodJournal.f (k : Nat) (aJ_Disk_Plate : List ByteArray) (aJ_Disk_Held : List ByteArray) (aJ_Disk_Bad : List Bool) (aJ_Epoch : Int) (aJ_Phase : Int) (aJ_Acked : List Int) (aJ_Coming : List Int) : Option Bool := opq (w_FnExactGoodJournal.s.run Try.prog (w_FnExactGoodJournal.C k) k (aJ_Disk_Plate, aJ_Disk_Held, aJ_Disk_Bad, aJ_Epoch, aJ_Phase, aJ_Acked, aJ_Coming))
theorem w_FnExactGoodJournal.ok (k : Nat) : CtrOk Try.prog 7 (w_FnExactGoodJournal.s.ctr (fun x => w_FnExactGoodJournal.f k x.1 x.2.1 x.2.2.1 x.2.2.2.1 x.2.2.2.2.1 x.2.2.2.2.2.1 x.2.2.2.2.2.2)) := sig_ok w_FnExactGoodJournal.s (.cons (w_eqJournal.ok k) (.cons (w_szJournal.ok k) (.cons (s_GoodJournal.ok k) (.cons (w_toJournal.ok k) (.cons (i_GoodJournal.ok k) .nil))))) (by kernel_rfl) fun _ => opq_eq _
theorem w_FnExactGoodJournal.f_eq (k : Nat) (aJ_Disk_Plate : List ByteArray) (aJ_Disk_Held : List ByteArray) (aJ_Disk_Bad : List Bool) (aJ_Epoch : Int) (aJ_Phase : Int) (aJ_Acked : List Int) (aJ_Coming : List Int) : w_FnExactGoodJournal.f k aJ_Disk_Plate aJ_Disk_Held aJ_Disk_Bad aJ_Epoch aJ_Phase aJ_Acked aJ_Coming =
 (w_szJournal.f k aJ_Disk_Plate aJ_Disk_Held aJ_Disk_Bad aJ_Epoch aJ_Phase aJ_Acked aJ_Coming (1048576 : Int)).bind fun d0 =>
 cn (decide (d0 < (0 : Int)))
 (some true)
 ((w_toJournal.f k aJ_Disk_Plate aJ_Disk_Held aJ_Disk_Bad aJ_Epoch aJ_Phase aJ_Acked aJ_Coming).bind fun d1 =>
  (s_GoodJournal.f k d1.fst d1.snd.fst d1.snd.snd.fst d1.snd.snd.snd.fst d1.snd.snd.snd.snd.fst d1.snd.snd.snd.snd.snd.fst d1.snd.snd.snd.snd.snd.snd).bind fun d2 =>
  (w_toJournal.f k aJ_Disk_Plate aJ_Disk_Held aJ_Disk_Bad aJ_Epoch aJ_Phase aJ_Acked aJ_Coming).bind fun d3 =>
  (i_GoodJournal.f k d3.fst d3.snd.fst d3.snd.snd.fst d3.snd.snd.snd.fst d3.snd.snd.snd.snd.fst d3.snd.snd.snd.snd.snd.fst d3.snd.snd.snd.snd.snd.snd).bind fun d4 =>
  cn (!d4 == d2)
  (some false)
  ((w_toJournal.f k aJ_Disk_Plate aJ_Disk_Held aJ_Disk_Bad aJ_Epoch aJ_Phase aJ_Acked aJ_Coming).bind fun d5 =>
   (w_eqJournal.f k d3.fst d3.snd.fst d3.snd.snd.fst d3.snd.snd.snd.fst d3.snd.snd.snd.snd.fst d3.snd.snd.snd.snd.snd.fst d3.snd.snd.snd.snd.snd.snd d5.fst d5.snd.fst d5.snd.snd.fst d5.snd.snd.snd.fst d5.snd.snd.snd.snd.fst d5.snd.snd.snd.snd.snd.fst d5.snd.snd.snd.snd.snd.snd).bind fun d6 =>
   cn (!d6)
   (some false)
   (some true))) := (opq_eq _).trans (by kernel_rfl)
end Go.Proofs.Ytcddcnnbhbffmaa
