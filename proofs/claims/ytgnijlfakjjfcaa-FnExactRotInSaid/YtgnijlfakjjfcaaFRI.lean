/- The functions that the statement reaches, as the executor tells them; their contracts. No condition. -/
import Derived.Test.YtgnijlfakjjfcaaE36
import Derived.Test.YtgnijlfakjjfcaaProg

namespace Go.Proofs.Ytgnijlfakjjfcaa
open Go Go.Proofs.YtgnijlfakjjfcaaE
set_option linter.unusedVariables false
set_option maxRecDepth 100000
abbrev w_szStringS.s : Sig := ⟨84, [], [.val, .val], [.one (.row 9 .str), .one (.int .i64)], [.one (.int .i64)], [], [(0, [(0,false),(1,false),(5,false)])]⟩
noncomputable def w_szStringS.C (k : Nat) : List (Nat × Ctr) := []
noncomputable def w_szStringS.f (k : Nat) (a : List ByteArray) (left : Int) : Option Int := opq (w_szStringS.s.run Try.prog (w_szStringS.C k) k (a, left))
theorem w_szStringS.ok (k : Nat) : CtrOk Try.prog 84 (w_szStringS.s.ctr (fun x => w_szStringS.f k x.1 x.2)) := sig_ok w_szStringS.s .nil (by kernel_rfl) fun _ => opq_eq _
noncomputable def w_szStringS.l0 (k : Nat) (m : Nat) (a0 : List ByteArray) (left1 : Int) (i5 : Int) : Option Int := w_szStringS.s.head Try.prog (w_szStringS.C k) k 1 0 [] m [(0, AV.row 9 Kind.str a0), (1, AV.int IntKind.i64 left1), (5, AV.int IntKind.i64 i5)] [Root.dead]
theorem w_szStringS.l0_z (k : Nat) (a0 : List ByteArray) (left1 : Int) (i5 : Int) : w_szStringS.l0 k 0 a0 left1 i5 = none := by kernel_rfl
theorem w_szStringS.l0_s (k : Nat) (m : Nat) (a0 : List ByteArray) (left1 : Int) (i5 : Int) : w_szStringS.l0 k (m + 1) a0 left1 i5 =
 cn (decide (i5 < (↑a0.length : Int)))
 (gd (inb i5 a0.length)
  (cn (decide (IntKind.i64.wrap (left1 - (↑(getAt ByteArray.empty a0 i5.toNat).size : Int)) < (0 : Int)))
   (some ((-1 : Int)))
   (w_szStringS.l0 k m a0 (IntKind.i64.wrap (left1 - (↑(getAt ByteArray.empty a0 i5.toNat).size : Int))) (IntKind.i64.wrap (i5 + (1 : Int))))))
 (some left1) := by kernel_rfl
theorem w_szStringS.f_eq (k : Nat) (a : List ByteArray) (left : Int) : w_szStringS.f k a left =
 cn (decide (IntKind.i64.wrap (left - (↑a.length : Int)) < (0 : Int)))
 (some ((-1 : Int)))
 (w_szStringS.l0 k k a (IntKind.i64.wrap (left - (↑a.length : Int))) ((0 : Int))) := (opq_eq _).trans (by kernel_rfl)
abbrev w_szBoolS.s : Sig := ⟨85, [], [.val, .val], [.one (.row 4 .bool), .one (.int .i64)], [.one (.int .i64)], [], []⟩
noncomputable def w_szBoolS.C (k : Nat) : List (Nat × Ctr) := []
noncomputable def w_szBoolS.f (k : Nat) (a : List Bool) (left : Int) : Option Int := opq (w_szBoolS.s.run Try.prog (w_szBoolS.C k) k (a, left))
theorem w_szBoolS.ok (k : Nat) : CtrOk Try.prog 85 (w_szBoolS.s.ctr (fun x => w_szBoolS.f k x.1 x.2)) := sig_ok w_szBoolS.s .nil (by kernel_rfl) fun _ => opq_eq _
theorem w_szBoolS.f_eq (k : Nat) (a : List Bool) (left : Int) : w_szBoolS.f k a left =
 cn (decide (IntKind.i64.wrap (left - (↑a.length : Int)) < (0 : Int)))
 (some ((-1 : Int)))
 (some (IntKind.i64.wrap (left - (↑a.length : Int)))) := (opq_eq _).trans (by kernel_rfl)
abbrev w_szDisk.s : Sig := ⟨40, [], [.val, .val], [.agg [.row 9 .str, .row 9 .str, .row 4 .bool], .one (.int .i64)], [.one (.int .i64)], [], []⟩
noncomputable def w_szDisk.C (k : Nat) : List (Nat × Ctr) := [(84, w_szStringS.s.ctr (fun x => w_szStringS.f k x.1 x.2)), (85, w_szBoolS.s.ctr (fun x => w_szBoolS.f k x.1 x.2))]
noncomputable def w_szDisk.f (k : Nat) (a_Plate : List ByteArray) (a_Held : List ByteArray) (a_Bad : List Bool) (left : Int) : Option Int := opq (w_szDisk.s.run Try.prog (w_szDisk.C k) k ((a_Plate, a_Held, a_Bad), left))
theorem w_szDisk.ok (k : Nat) : CtrOk Try.prog 40 (w_szDisk.s.ctr (fun x => w_szDisk.f k x.1.1 x.1.2.1 x.1.2.2 x.2)) := sig_ok w_szDisk.s (.cons (w_szStringS.ok k) (.cons (w_szBoolS.ok k) .nil)) (by kernel_rfl) fun _ => opq_eq _
theorem w_szDisk.f_eq (k : Nat) (a_Plate : List ByteArray) (a_Held : List ByteArray) (a_Bad : List Bool) (left : Int) : w_szDisk.f k a_Plate a_Held a_Bad left =
 (w_szStringS.f k a_Plate left).bind fun d0 =>
 cn (decide (d0 < (0 : Int)))
 (some ((-1 : Int)))
 ((w_szStringS.f k a_Held d0).bind fun d1 =>
  cn (decide (d1 < (0 : Int)))
  (some ((-1 : Int)))
  ((w_szBoolS.f k a_Bad d1).bind fun d2 =>
   cn (decide (d2 < (0 : Int)))
   (some ((-1 : Int)))
   (some d2))) := (opq_eq _).trans (by kernel_rfl)
abbrev w_szIntS.s : Sig := ⟨41, [], [.val, .val], [.one (.row 3 (.int .i64)), .one (.int .i64)], [.one (.int .i64)], [], []⟩
noncomputable def w_szIntS.C (k : Nat) : List (Nat × Ctr) := []
noncomputable def w_szIntS.f (k : Nat) (a : List Int) (left : Int) : Option Int := opq (w_szIntS.s.run Try.prog (w_szIntS.C k) k (a, left))
theorem w_szIntS.ok (k : Nat) : CtrOk Try.prog 41 (w_szIntS.s.ctr (fun x => w_szIntS.f k x.1 x.2)) := sig_ok w_szIntS.s .nil (by kernel_rfl) fun _ => opq_eq _
theorem w_szIntS.f_eq (k : Nat) (a : List Int) (left : Int) : w_szIntS.f k a left =
 cn (decide (IntKind.i64.wrap (left - (↑a.length : Int)) < (0 : Int)))
 (some ((-1 : Int)))
 (some (IntKind.i64.wrap (left - (↑a.length : Int)))) := (opq_eq _).trans (by kernel_rfl)
abbrev w_szScrub.s : Sig := ⟨9, [], [.val, .val], [.agg [.row 9 .str, .row 9 .str, .row 4 .bool, .row 3 (.int .i64), .int .i64, .int .i64], .one (.int .i64)], [.one (.int .i64)], [], []⟩
noncomputable def w_szScrub.C (k : Nat) : List (Nat × Ctr) := [(40, w_szDisk.s.ctr (fun x => w_szDisk.f k x.1.1 x.1.2.1 x.1.2.2 x.2)), (41, w_szIntS.s.ctr (fun x => w_szIntS.f k x.1 x.2))]
noncomputable def w_szScrub.f (k : Nat) (a_Disk_Plate : List ByteArray) (a_Disk_Held : List ByteArray) (a_Disk_Bad : List Bool) (a_Epochs : List Int) (a_Cursor : Int) (a_Mended : Int) (left : Int) : Option Int := opq (w_szScrub.s.run Try.prog (w_szScrub.C k) k ((a_Disk_Plate, a_Disk_Held, a_Disk_Bad, a_Epochs, a_Cursor, a_Mended), left))
theorem w_szScrub.ok (k : Nat) : CtrOk Try.prog 9 (w_szScrub.s.ctr (fun x => w_szScrub.f k x.1.1 x.1.2.1 x.1.2.2.1 x.1.2.2.2.1 x.1.2.2.2.2.1 x.1.2.2.2.2.2 x.2)) := sig_ok w_szScrub.s (.cons (w_szDisk.ok k) (.cons (w_szIntS.ok k) .nil)) (by kernel_rfl) fun _ => opq_eq _
theorem w_szScrub.f_eq (k : Nat) (a_Disk_Plate : List ByteArray) (a_Disk_Held : List ByteArray) (a_Disk_Bad : List Bool) (a_Epochs : List Int) (a_Cursor : Int) (a_Mended : Int) (left : Int) : w_szScrub.f k a_Disk_Plate a_Disk_Held a_Disk_Bad a_Epochs a_Cursor a_Mended left =
 (w_szDisk.f k a_Disk_Plate a_Disk_Held a_Disk_Bad left).bind fun d0 =>
 cn (decide (d0 < (0 : Int)))
 (some ((-1 : Int)))
 ((w_szIntS.f k a_Epochs d0).bind fun d1 =>
  cn (decide (d1 < (0 : Int)))
  (some ((-1 : Int)))
  (some d1)) := (opq_eq _).trans (by kernel_rfl)
abbrev w_toStringS.s : Sig := ⟨86, [], [.val], [.one (.row 9 .str)], [.one (.own 9 .str)], [], [(0, [(0,false),(3,true),(4,false)])]⟩
noncomputable def w_toStringS.C (k : Nat) : List (Nat × Ctr) := []
noncomputable def w_toStringS.f (k : Nat) (a : List ByteArray) : Option (List ByteArray) := opq (w_toStringS.s.run Try.prog (w_toStringS.C k) k a)
theorem w_toStringS.ok (k : Nat) : CtrOk Try.prog 86 (w_toStringS.s.ctr (fun x => w_toStringS.f k x)) := sig_ok w_toStringS.s .nil (by kernel_rfl) fun _ => opq_eq _
noncomputable def w_toStringS.l0 (k : Nat) (m : Nat) (a0 : List ByteArray) (i4 : Int) (h1 : List ByteArray) : Option (List ByteArray) := w_toStringS.s.head Try.prog (w_toStringS.C k) k 1 0 [] m [(0, AV.row 9 Kind.str a0), (3, AV.ref 1), (4, AV.int IntKind.i64 i4)] [Root.dead, Root.rows 9 Kind.str h1]
theorem w_toStringS.l0_z (k : Nat) (a0 : List ByteArray) (i4 : Int) (h1 : List ByteArray) : w_toStringS.l0 k 0 a0 i4 h1 = none := by kernel_rfl
theorem w_toStringS.l0_s (k : Nat) (m : Nat) (a0 : List ByteArray) (i4 : Int) (h1 : List ByteArray) : w_toStringS.l0 k (m + 1) a0 i4 h1 =
 cn (decide (i4 < (↑a0.length : Int)))
 (gd (inb i4 a0.length)
  (gd (inb i4 h1.length)
   (w_toStringS.l0 k m a0 (IntKind.i64.wrap (i4 + (1 : Int))) (h1.set i4.toNat (getAt ByteArray.empty a0 i4.toNat)))))
 (some h1) := by kernel_rfl
theorem w_toStringS.f_eq (k : Nat) (a : List ByteArray) : w_toStringS.f k a =
 gd (mkOk (↑a.length : Int) (↑a.length : Int) (Try.prog.bytesOf (9 : Nat)))
 (w_toStringS.l0 k k a ((0 : Int)) (List.replicate (↑a.length : Int).toNat ByteArray.empty)) := (opq_eq _).trans (by kernel_rfl)
abbrev w_toBoolS.s : Sig := ⟨87, [], [.val], [.one (.row 4 .bool)], [.one (.own 4 .bool)], [], [(0, [(0,false),(3,true),(4,false)])]⟩
noncomputable def w_toBoolS.C (k : Nat) : List (Nat × Ctr) := []
noncomputable def w_toBoolS.f (k : Nat) (a : List Bool) : Option (List Bool) := opq (w_toBoolS.s.run Try.prog (w_toBoolS.C k) k a)
theorem w_toBoolS.ok (k : Nat) : CtrOk Try.prog 87 (w_toBoolS.s.ctr (fun x => w_toBoolS.f k x)) := sig_ok w_toBoolS.s .nil (by kernel_rfl) fun _ => opq_eq _
noncomputable def w_toBoolS.l0 (k : Nat) (m : Nat) (a0 : List Bool) (i4 : Int) (h1 : List Bool) : Option (List Bool) := w_toBoolS.s.head Try.prog (w_toBoolS.C k) k 1 0 [] m [(0, AV.row 4 Kind.bool a0), (3, AV.ref 1), (4, AV.int IntKind.i64 i4)] [Root.dead, Root.rows 4 Kind.bool h1]
theorem w_toBoolS.l0_z (k : Nat) (a0 : List Bool) (i4 : Int) (h1 : List Bool) : w_toBoolS.l0 k 0 a0 i4 h1 = none := by kernel_rfl
theorem w_toBoolS.l0_s (k : Nat) (m : Nat) (a0 : List Bool) (i4 : Int) (h1 : List Bool) : w_toBoolS.l0 k (m + 1) a0 i4 h1 =
 cn (decide (i4 < (↑a0.length : Int)))
 (gd (inb i4 a0.length)
  (gd (inb i4 h1.length)
   (w_toBoolS.l0 k m a0 (IntKind.i64.wrap (i4 + (1 : Int))) (h1.set i4.toNat (getAt false a0 i4.toNat)))))
 (some h1) := by kernel_rfl
theorem w_toBoolS.f_eq (k : Nat) (a : List Bool) : w_toBoolS.f k a =
 gd (mkOk (↑a.length : Int) (↑a.length : Int) (Try.prog.bytesOf (4 : Nat)))
 (w_toBoolS.l0 k k a ((0 : Int)) (List.replicate (↑a.length : Int).toNat false)) := (opq_eq _).trans (by kernel_rfl)
abbrev w_toDisk.s : Sig := ⟨44, [], [.val], [.agg [.row 9 .str, .row 9 .str, .row 4 .bool]], [.agg [.own 9 .str, .own 9 .str, .own 4 .bool]], [], []⟩
noncomputable def w_toDisk.C (k : Nat) : List (Nat × Ctr) := [(86, w_toStringS.s.ctr (fun x => w_toStringS.f k x)), (87, w_toBoolS.s.ctr (fun x => w_toBoolS.f k x))]
noncomputable def w_toDisk.f (k : Nat) (a_Plate : List ByteArray) (a_Held : List ByteArray) (a_Bad : List Bool) : Option (List ByteArray × List ByteArray × List Bool) := opq (w_toDisk.s.run Try.prog (w_toDisk.C k) k (a_Plate, a_Held, a_Bad))
theorem w_toDisk.ok (k : Nat) : CtrOk Try.prog 44 (w_toDisk.s.ctr (fun x => w_toDisk.f k x.1 x.2.1 x.2.2)) := sig_ok w_toDisk.s (.cons (w_toStringS.ok k) (.cons (w_toBoolS.ok k) .nil)) (by kernel_rfl) fun _ => opq_eq _
theorem w_toDisk.f_eq (k : Nat) (a_Plate : List ByteArray) (a_Held : List ByteArray) (a_Bad : List Bool) : w_toDisk.f k a_Plate a_Held a_Bad =
 (w_toStringS.f k a_Plate).bind fun d0 =>
 (w_toStringS.f k a_Held).bind fun d1 =>
 (w_toBoolS.f k a_Bad).bind fun d2 =>
 some ((d0, d1, d2)) := (opq_eq _).trans (by kernel_rfl)
abbrev w_toIntS.s : Sig := ⟨45, [], [.val], [.one (.row 3 (.int .i64))], [.one (.own 3 (.int .i64))], [], [(0, [(0,false),(3,true),(4,false)])]⟩
noncomputable def w_toIntS.C (k : Nat) : List (Nat × Ctr) := []
noncomputable def w_toIntS.f (k : Nat) (a : List Int) : Option (List Int) := opq (w_toIntS.s.run Try.prog (w_toIntS.C k) k a)
theorem w_toIntS.ok (k : Nat) : CtrOk Try.prog 45 (w_toIntS.s.ctr (fun x => w_toIntS.f k x)) := sig_ok w_toIntS.s .nil (by kernel_rfl) fun _ => opq_eq _
noncomputable def w_toIntS.l0 (k : Nat) (m : Nat) (a0 : List Int) (i4 : Int) (h1 : List Int) : Option (List Int) := w_toIntS.s.head Try.prog (w_toIntS.C k) k 1 0 [] m [(0, AV.row 3 (Kind.int IntKind.i64) a0), (3, AV.ref 1), (4, AV.int IntKind.i64 i4)] [Root.dead, Root.rows 3 (Kind.int IntKind.i64) h1]
theorem w_toIntS.l0_z (k : Nat) (a0 : List Int) (i4 : Int) (h1 : List Int) : w_toIntS.l0 k 0 a0 i4 h1 = none := by kernel_rfl
theorem w_toIntS.l0_s (k : Nat) (m : Nat) (a0 : List Int) (i4 : Int) (h1 : List Int) : w_toIntS.l0 k (m + 1) a0 i4 h1 =
 cn (decide (i4 < (↑a0.length : Int)))
 (gd (inb i4 a0.length)
  (gd (inb i4 h1.length)
   (w_toIntS.l0 k m a0 (IntKind.i64.wrap (i4 + (1 : Int))) (h1.set i4.toNat (getAt (0 : Int) a0 i4.toNat)))))
 (some h1) := by kernel_rfl
theorem w_toIntS.f_eq (k : Nat) (a : List Int) : w_toIntS.f k a =
 gd (mkOk (↑a.length : Int) (↑a.length : Int) (Try.prog.bytesOf (3 : Nat)))
 (w_toIntS.l0 k k a ((0 : Int)) (List.replicate (↑a.length : Int).toNat (0 : Int))) := (opq_eq _).trans (by kernel_rfl)
abbrev w_toScrub.s : Sig := ⟨11, [], [.val], [.agg [.row 9 .str, .row 9 .str, .row 4 .bool, .row 3 (.int .i64), .int .i64, .int .i64]], [.agg [.own 9 .str, .own 9 .str, .own 4 .bool, .own 3 (.int .i64), .int .i64, .int .i64]], [], []⟩
noncomputable def w_toScrub.C (k : Nat) : List (Nat × Ctr) := [(44, w_toDisk.s.ctr (fun x => w_toDisk.f k x.1 x.2.1 x.2.2)), (45, w_toIntS.s.ctr (fun x => w_toIntS.f k x))]
noncomputable def w_toScrub.f (k : Nat) (a_Disk_Plate : List ByteArray) (a_Disk_Held : List ByteArray) (a_Disk_Bad : List Bool) (a_Epochs : List Int) (a_Cursor : Int) (a_Mended : Int) : Option (List ByteArray × List ByteArray × List Bool × List Int × Int × Int) := opq (w_toScrub.s.run Try.prog (w_toScrub.C k) k (a_Disk_Plate, a_Disk_Held, a_Disk_Bad, a_Epochs, a_Cursor, a_Mended))
theorem w_toScrub.ok (k : Nat) : CtrOk Try.prog 11 (w_toScrub.s.ctr (fun x => w_toScrub.f k x.1 x.2.1 x.2.2.1 x.2.2.2.1 x.2.2.2.2.1 x.2.2.2.2.2)) := sig_ok w_toScrub.s (.cons (w_toDisk.ok k) (.cons (w_toIntS.ok k) .nil)) (by kernel_rfl) fun _ => opq_eq _
theorem w_toScrub.f_eq (k : Nat) (a_Disk_Plate : List ByteArray) (a_Disk_Held : List ByteArray) (a_Disk_Bad : List Bool) (a_Epochs : List Int) (a_Cursor : Int) (a_Mended : Int) : w_toScrub.f k a_Disk_Plate a_Disk_Held a_Disk_Bad a_Epochs a_Cursor a_Mended =
 (w_toDisk.f k a_Disk_Plate a_Disk_Held a_Disk_Bad).bind fun d0 =>
 (w_toIntS.f k a_Epochs).bind fun d1 =>
 some ((d0.fst, d0.snd.fst, d0.snd.snd, d1, a_Cursor, a_Mended)) := (opq_eq _).trans (by kernel_rfl)
abbrev s_l1In.s : Sig := ⟨42, [], [.val, .val, .val], [.one (.int .i64), .one (.int .i64), .one (.int .i64)], [.one .bool], [], []⟩
noncomputable def s_l1In.C (k : Nat) : List (Nat × Ctr) := []
noncomputable def s_l1In.f (k : Nat) (n : Int) (lo : Int) (hi : Int) : Option Bool := opq (s_l1In.s.run Try.prog (s_l1In.C k) k (n, lo, hi))
theorem s_l1In.ok (k : Nat) : CtrOk Try.prog 42 (s_l1In.s.ctr (fun x => s_l1In.f k x.1 x.2.1 x.2.2)) := sig_ok s_l1In.s .nil (by kernel_rfl) fun _ => opq_eq _
theorem s_l1In.f_eq (k : Nat) (n : Int) (lo : Int) (hi : Int) : s_l1In.f k n lo hi =
 cn (decide (lo ≤ n))
 (some (decide (n ≤ hi)))
 (some false) := (opq_eq _).trans (by kernel_rfl)
abbrev s_GoodDisk.s : Sig := ⟨43, [], [.val], [.agg [.row 9 .str, .row 9 .str, .row 4 .bool]], [.one .bool], [], [(0, [(1,false),(27,false),(28,false)])]⟩
noncomputable def s_GoodDisk.C (k : Nat) : List (Nat × Ctr) := [(42, s_l1In.s.ctr (fun x => s_l1In.f k x.1 x.2.1 x.2.2))]
noncomputable def s_GoodDisk.f (k : Nat) (d_Plate : List ByteArray) (d_Held : List ByteArray) (d_Bad : List Bool) : Option Bool := opq (s_GoodDisk.s.run Try.prog (s_GoodDisk.C k) k (d_Plate, d_Held, d_Bad))
theorem s_GoodDisk.ok (k : Nat) : CtrOk Try.prog 43 (s_GoodDisk.s.ctr (fun x => s_GoodDisk.f k x.1 x.2.1 x.2.2)) := sig_ok s_GoodDisk.s (.cons (s_l1In.ok k) .nil) (by kernel_rfl) fun _ => opq_eq _
noncomputable def s_GoodDisk.l0 (k : Nat) (m : Nat) (t27 : Int) (t28 : Int) (h1 : List ByteArray) (h1_ : List ByteArray) (h1__ : List Bool) : Option Bool := s_GoodDisk.s.head Try.prog (s_GoodDisk.C k) k 1 0 [] m [(1, AV.ptr 1 0 0), (27, AV.int IntKind.i64 t27), (28, AV.int IntKind.i64 t28)] [Root.dead, Root.box 31 [AV.row 9 Kind.str h1, AV.row 9 Kind.str h1_, AV.row 4 Kind.bool h1__]]
theorem s_GoodDisk.l0_z (k : Nat) (t27 : Int) (t28 : Int) (h1 : List ByteArray) (h1_ : List ByteArray) (h1__ : List Bool) : s_GoodDisk.l0 k 0 t27 t28 h1 h1_ h1__ = none := by kernel_rfl
theorem s_GoodDisk.l0_s (k : Nat) (m : Nat) (t27 : Int) (t28 : Int) (h1 : List ByteArray) (h1_ : List ByteArray) (h1__ : List Bool) : s_GoodDisk.l0 k (m + 1) t27 t28 h1 h1_ h1__ =
 cn (decide (t28 < t27))
 (gd (inb t28 h1.length)
  (cn (decide ((28 : Int) < (↑(getAt ByteArray.empty h1 t28.toNat).size : Int)))
   (some false)
   (gd (inb t28 h1_.length)
    (cn (decide ((28 : Int) < (↑(getAt ByteArray.empty h1_ t28.toNat).size : Int)))
     (some false)
     (gd (inb t28 h1__.length)
      (cn (getAt false h1__ t28.toNat)
       (gd (inb t28 h1_.length)
        (cn (!decide ((getAt ByteArray.empty h1_ t28.toNat).toList = ByteArray.empty.toList))
         (some false)
         (s_GoodDisk.l0 k m t27 (IntKind.i64.wrap (t28 + (1 : Int))) h1 h1_ h1__)))
       (s_GoodDisk.l0 k m t27 (IntKind.i64.wrap (t28 + (1 : Int))) h1 h1_ h1__)))))))
 (some true) := by kernel_rfl
theorem s_GoodDisk.f_eq (k : Nat) (d_Plate : List ByteArray) (d_Held : List ByteArray) (d_Bad : List Bool) : s_GoodDisk.f k d_Plate d_Held d_Bad =
 (s_l1In.f k (↑d_Plate.length : Int) (1 : Int) (24 : Int)).bind fun d0 =>
 cn (!d0)
 (some false)
 (cn (!decide ((↑d_Held.length : Int) = (↑d_Plate.length : Int)))
  (some false)
  (cn (!decide ((↑d_Bad.length : Int) = (↑d_Plate.length : Int)))
   (some false)
   (s_GoodDisk.l0 k k ((↑d_Plate.length : Int)) ((0 : Int)) d_Plate d_Held d_Bad))) := (opq_eq _).trans (by kernel_rfl)
abbrev s_GoodScrub.s : Sig := ⟨10, [], [.val], [.agg [.row 9 .str, .row 9 .str, .row 4 .bool, .row 3 (.int .i64), .int .i64, .int .i64]], [.one .bool], [], [(0, [(1,false),(3,false),(10,true),(11,false),(12,false)])]⟩
noncomputable def s_GoodScrub.C (k : Nat) : List (Nat × Ctr) := [(42, s_l1In.s.ctr (fun x => s_l1In.f k x.1 x.2.1 x.2.2)), (43, s_GoodDisk.s.ctr (fun x => s_GoodDisk.f k x.1 x.2.1 x.2.2))]
noncomputable def s_GoodScrub.f (k : Nat) (s_Disk_Plate : List ByteArray) (s_Disk_Held : List ByteArray) (s_Disk_Bad : List Bool) (s_Epochs : List Int) (s_Cursor : Int) (s_Mended : Int) : Option Bool := opq (s_GoodScrub.s.run Try.prog (s_GoodScrub.C k) k (s_Disk_Plate, s_Disk_Held, s_Disk_Bad, s_Epochs, s_Cursor, s_Mended))
theorem s_GoodScrub.ok (k : Nat) : CtrOk Try.prog 10 (s_GoodScrub.s.ctr (fun x => s_GoodScrub.f k x.1 x.2.1 x.2.2.1 x.2.2.2.1 x.2.2.2.2.1 x.2.2.2.2.2)) := sig_ok s_GoodScrub.s (.cons (s_l1In.ok k) (.cons (s_GoodDisk.ok k) .nil)) (by kernel_rfl) fun _ => opq_eq _
noncomputable def s_GoodScrub.l0 (k : Nat) (m : Nat) (n3 : Int) (t10 : List Int) (t11 : Int) (t12 : Int) (h1 : List ByteArray) (h1_ : List ByteArray) (h1__ : List Bool) (h1___ : List Int) (h1____ : Int) (h1_____ : Int) : Option Bool := s_GoodScrub.s.head Try.prog (s_GoodScrub.C k) k 1 0 [] m [(1, AV.ptr 1 0 0), (3, AV.int IntKind.i64 n3), (10, AV.row 3 (Kind.int IntKind.i64) t10), (11, AV.int IntKind.i64 t11), (12, AV.int IntKind.i64 t12)] [Root.dead, Root.box 33 [AV.row 9 Kind.str h1, AV.row 9 Kind.str h1_, AV.row 4 Kind.bool h1__, AV.row 3 (Kind.int IntKind.i64) h1___, AV.int IntKind.i64 h1____, AV.int IntKind.i64 h1_____]]
theorem s_GoodScrub.l0_z (k : Nat) (n3 : Int) (t10 : List Int) (t11 : Int) (t12 : Int) (h1 : List ByteArray) (h1_ : List ByteArray) (h1__ : List Bool) (h1___ : List Int) (h1____ : Int) (h1_____ : Int) : s_GoodScrub.l0 k 0 n3 t10 t11 t12 h1 h1_ h1__ h1___ h1____ h1_____ = none := by kernel_rfl
theorem s_GoodScrub.l0_s (k : Nat) (m : Nat) (n3 : Int) (t10 : List Int) (t11 : Int) (t12 : Int) (h1 : List ByteArray) (h1_ : List ByteArray) (h1__ : List Bool) (h1___ : List Int) (h1____ : Int) (h1_____ : Int) : s_GoodScrub.l0 k (m + 1) n3 t10 t11 t12 h1 h1_ h1__ h1___ h1____ h1_____ =
 cn (decide (t12 < t11))
 (gd (inb t12 t10.length)
  ((s_l1In.f k (getAt (0 : Int) t10 t12.toNat) (0 : Int) (60000 : Int)).bind fun d0 =>
   cn (!d0)
   (some false)
   (s_GoodScrub.l0 k m n3 t10 t11 (IntKind.i64.wrap (t12 + (1 : Int))) h1 h1_ h1__ h1___ h1____ h1_____)))
 ((s_l1In.f k n3 (1 : Int) (4 : Int)).bind fun d0 =>
  cn d0
  ((s_GoodDisk.f k h1 h1_ h1__).bind fun d1 =>
   cn d1
   (cn (decide ((↑h1.length : Int) = IntKind.i64.wrap ((5 : Int) * n3)))
    ((s_l1In.f k h1____ (0 : Int) (IntKind.i64.wrap (n3 - (1 : Int)))).bind fun d2 =>
     cn d2
     ((s_l1In.f k h1_____ (0 : Int) (10000 : Int)).bind fun d3 =>
      some d3)
     (some false))
    (some false))
   (some false))
  (some false)) := by kernel_rfl
theorem s_GoodScrub.f_eq (k : Nat) (s_Disk_Plate : List ByteArray) (s_Disk_Held : List ByteArray) (s_Disk_Bad : List Bool) (s_Epochs : List Int) (s_Cursor : Int) (s_Mended : Int) : s_GoodScrub.f k s_Disk_Plate s_Disk_Held s_Disk_Bad s_Epochs s_Cursor s_Mended =
 s_GoodScrub.l0 k k ((↑s_Epochs.length : Int)) s_Epochs ((↑s_Epochs.length : Int)) ((0 : Int)) s_Disk_Plate s_Disk_Held s_Disk_Bad s_Epochs s_Cursor s_Mended := (opq_eq _).trans (by kernel_rfl)
abbrev s_l7Own.s : Sig := ⟨94, [], [.val], [.agg [.row 9 .str, .row 9 .str, .row 4 .bool]], [.agg [.own 9 .str, .own 9 .str, .own 4 .bool]], [], []⟩
noncomputable def s_l7Own.C (k : Nat) : List (Nat × Ctr) := []
noncomputable def s_l7Own.f (k : Nat) (d_Plate : List ByteArray) (d_Held : List ByteArray) (d_Bad : List Bool) : Option (List ByteArray × List ByteArray × List Bool) := opq (s_l7Own.s.run Try.prog (s_l7Own.C k) k (d_Plate, d_Held, d_Bad))
theorem s_l7Own.ok (k : Nat) : CtrOk Try.prog 94 (s_l7Own.s.ctr (fun x => s_l7Own.f k x.1 x.2.1 x.2.2)) := sig_ok s_l7Own.s .nil (by kernel_rfl) fun _ => opq_eq _
theorem s_l7Own.f_eq (k : Nat) (d_Plate : List ByteArray) (d_Held : List ByteArray) (d_Bad : List Bool) : s_l7Own.f k d_Plate d_Held d_Bad =
 both
 (both
  (gd (appOk ((0 : Nat) + d_Plate.length) (Try.prog.bytesOf (9 : Nat)))
   (both
    (dup
     (gd (appOk ((0 : Nat) + d_Held.length) (Try.prog.bytesOf (9 : Nat)))
      (gd (appOk ((0 : Nat) + d_Bad.length) (Try.prog.bytesOf (4 : Nat)))
       (some (([] ++ d_Plate, [] ++ d_Held, [] ++ d_Bad))))))
    (gd (appOk ((0 : Nat) + d_Held.length) (Try.prog.bytesOf (9 : Nat)))
     (gd (appOk ((0 : Nat) + d_Bad.length) (Try.prog.bytesOf (4 : Nat)))
      (some (([] ++ d_Plate, [] ++ d_Held, [] ++ d_Bad)))))))
  (both
   (both
    (gd (appOk ((0 : Nat) + d_Plate.length) (Try.prog.bytesOf (9 : Nat)))
     (dup
      (gd (appOk ((0 : Nat) + d_Held.length) (Try.prog.bytesOf (9 : Nat)))
       (gd (appOk ((0 : Nat) + d_Bad.length) (Try.prog.bytesOf (4 : Nat)))
        (some (([] ++ d_Plate, [] ++ d_Held, [] ++ d_Bad)))))))
    (gd (appOk ((0 : Nat) + d_Plate.length) (Try.prog.bytesOf (9 : Nat)))
     (gd (appOk ((0 : Nat) + d_Held.length) (Try.prog.bytesOf (9 : Nat)))
      (gd (appOk ((0 : Nat) + d_Bad.length) (Try.prog.bytesOf (4 : Nat)))
       (some (([] ++ d_Plate, [] ++ d_Held, [] ++ d_Bad)))))))
   (dup
    (gd (appOk ((0 : Nat) + d_Plate.length) (Try.prog.bytesOf (9 : Nat)))
     (gd (appOk ((0 : Nat) + d_Held.length) (Try.prog.bytesOf (9 : Nat)))
      (gd (appOk ((0 : Nat) + d_Bad.length) (Try.prog.bytesOf (4 : Nat)))
       (some (([] ++ d_Plate, [] ++ d_Held, [] ++ d_Bad)))))))))
 (both
  (both
   (both
    (gd (appOk ((0 : Nat) + d_Plate.length) (Try.prog.bytesOf (9 : Nat)))
     (dup
      (gd (appOk ((0 : Nat) + d_Held.length) (Try.prog.bytesOf (9 : Nat)))
       (gd (appOk ((0 : Nat) + d_Bad.length) (Try.prog.bytesOf (4 : Nat)))
        (some (([] ++ d_Plate, [] ++ d_Held, [] ++ d_Bad)))))))
    (gd (appOk ((0 : Nat) + d_Plate.length) (Try.prog.bytesOf (9 : Nat)))
     (gd (appOk ((0 : Nat) + d_Held.length) (Try.prog.bytesOf (9 : Nat)))
      (gd (appOk ((0 : Nat) + d_Bad.length) (Try.prog.bytesOf (4 : Nat)))
       (some (([] ++ d_Plate, [] ++ d_Held, [] ++ d_Bad)))))))
   (gd (appOk ((0 : Nat) + d_Plate.length) (Try.prog.bytesOf (9 : Nat)))
    (gd (appOk ((0 : Nat) + d_Held.length) (Try.prog.bytesOf (9 : Nat)))
     (gd (appOk ((0 : Nat) + d_Bad.length) (Try.prog.bytesOf (4 : Nat)))
      (some (([] ++ d_Plate, [] ++ d_Held, [] ++ d_Bad)))))))
  (both
   (dup
    (gd (appOk ((0 : Nat) + d_Plate.length) (Try.prog.bytesOf (9 : Nat)))
     (gd (appOk ((0 : Nat) + d_Held.length) (Try.prog.bytesOf (9 : Nat)))
      (gd (appOk ((0 : Nat) + d_Bad.length) (Try.prog.bytesOf (4 : Nat)))
       (some (([] ++ d_Plate, [] ++ d_Held, [] ++ d_Bad)))))))
   (gd (appOk ((0 : Nat) + d_Plate.length) (Try.prog.bytesOf (9 : Nat)))
    (gd (appOk ((0 : Nat) + d_Held.length) (Try.prog.bytesOf (9 : Nat)))
     (gd (appOk ((0 : Nat) + d_Bad.length) (Try.prog.bytesOf (4 : Nat)))
      (some (([] ++ d_Plate, [] ++ d_Held, [] ++ d_Bad)))))))) := (opq_eq _).trans (by kernel_rfl)
abbrev s_l16Own.s : Sig := ⟨78, [], [.val], [.agg [.row 9 .str, .row 9 .str, .row 4 .bool, .row 3 (.int .i64), .int .i64, .int .i64]], [.agg [.own 9 .str, .own 9 .str, .own 4 .bool, .own 3 (.int .i64), .int .i64, .int .i64]], [], []⟩
noncomputable def s_l16Own.C (k : Nat) : List (Nat × Ctr) := [(94, s_l7Own.s.ctr (fun x => s_l7Own.f k x.1 x.2.1 x.2.2))]
noncomputable def s_l16Own.f (k : Nat) (s_Disk_Plate : List ByteArray) (s_Disk_Held : List ByteArray) (s_Disk_Bad : List Bool) (s_Epochs : List Int) (s_Cursor : Int) (s_Mended : Int) : Option (List ByteArray × List ByteArray × List Bool × List Int × Int × Int) := opq (s_l16Own.s.run Try.prog (s_l16Own.C k) k (s_Disk_Plate, s_Disk_Held, s_Disk_Bad, s_Epochs, s_Cursor, s_Mended))
theorem s_l16Own.ok (k : Nat) : CtrOk Try.prog 78 (s_l16Own.s.ctr (fun x => s_l16Own.f k x.1 x.2.1 x.2.2.1 x.2.2.2.1 x.2.2.2.2.1 x.2.2.2.2.2)) := sig_ok s_l16Own.s (.cons (s_l7Own.ok k) .nil) (by kernel_rfl) fun _ => opq_eq _
theorem s_l16Own.f_eq (k : Nat) (s_Disk_Plate : List ByteArray) (s_Disk_Held : List ByteArray) (s_Disk_Bad : List Bool) (s_Epochs : List Int) (s_Cursor : Int) (s_Mended : Int) : s_l16Own.f k s_Disk_Plate s_Disk_Held s_Disk_Bad s_Epochs s_Cursor s_Mended =
 (s_l7Own.f k s_Disk_Plate s_Disk_Held s_Disk_Bad).bind fun d0 =>
 gd (appOk ((0 : Nat) + s_Epochs.length) (Try.prog.bytesOf (3 : Nat)))
 (some ((d0.fst, d0.snd.fst, d0.snd.snd, [] ++ s_Epochs, s_Cursor, s_Mended))) := (opq_eq _).trans (by kernel_rfl)
abbrev s_l7Held.s : Sig := ⟨97, [], [.val], [.agg [.row 9 .str, .row 9 .str, .row 4 .bool]], [.one (.own 3 (.int .i64))], [], [(0, [(3,true),(7,true),(8,false),(9,false)])]⟩
noncomputable def s_l7Held.C (k : Nat) : List (Nat × Ctr) := []
noncomputable def s_l7Held.f (k : Nat) (d_Plate : List ByteArray) (d_Held : List ByteArray) (d_Bad : List Bool) : Option (List Int) := opq (s_l7Held.s.run Try.prog (s_l7Held.C k) k (d_Plate, d_Held, d_Bad))
theorem s_l7Held.ok (k : Nat) : CtrOk Try.prog 97 (s_l7Held.s.ctr (fun x => s_l7Held.f k x.1 x.2.1 x.2.2)) := sig_ok s_l7Held.s .nil (by kernel_rfl) fun _ => opq_eq _
noncomputable def s_l7Held.l0 (k : Nat) (m : Nat) (t7 : List ByteArray) (t8 : Int) (t9 : Int) (h1 : List Int) : Option (List Int) := s_l7Held.s.head Try.prog (s_l7Held.C k) k 1 0 [] m [(3, AV.ref 1), (7, AV.row 9 Kind.str t7), (8, AV.int IntKind.i64 t8), (9, AV.int IntKind.i64 t9)] [Root.dead, Root.rows 3 (Kind.int IntKind.i64) h1]
theorem s_l7Held.l0_z (k : Nat) (t7 : List ByteArray) (t8 : Int) (t9 : Int) (h1 : List Int) : s_l7Held.l0 k 0 t7 t8 t9 h1 = none := by kernel_rfl
theorem s_l7Held.l0_s (k : Nat) (m : Nat) (t7 : List ByteArray) (t8 : Int) (t9 : Int) (h1 : List Int) : s_l7Held.l0 k (m + 1) t7 t8 t9 h1 =
 cn (decide (t9 < t8))
 (gd (inb t9 t7.length)
  (cn (!decide ((getAt ByteArray.empty t7 t9.toNat).toList = ByteArray.empty.toList))
   (gd (appOk (h1.length + [t9].length) (Try.prog.bytesOf (3 : Nat)))
    (s_l7Held.l0 k m t7 t8 (IntKind.i64.wrap (t9 + (1 : Int))) (h1 ++ [t9])))
   (s_l7Held.l0 k m t7 t8 (IntKind.i64.wrap (t9 + (1 : Int))) h1)))
 (some h1) := by kernel_rfl
theorem s_l7Held.f_eq (k : Nat) (d_Plate : List ByteArray) (d_Held : List ByteArray) (d_Bad : List Bool) : s_l7Held.f k d_Plate d_Held d_Bad =
 s_l7Held.l0 k k d_Held ((↑d_Held.length : Int)) ((0 : Int)) ([]) := (opq_eq _).trans (by kernel_rfl)
abbrev s_l1Has.s : Sig := ⟨106, [], [.val, .val], [.one (.row 3 (.int .i64)), .one (.int .i64)], [.one .bool], [], [(0, [(1,false),(7,true),(8,false),(9,false)])]⟩
noncomputable def s_l1Has.C (k : Nat) : List (Nat × Ctr) := []
noncomputable def s_l1Has.f (k : Nat) (l : List Int) (n : Int) : Option Bool := opq (s_l1Has.s.run Try.prog (s_l1Has.C k) k (l, n))
theorem s_l1Has.ok (k : Nat) : CtrOk Try.prog 106 (s_l1Has.s.ctr (fun x => s_l1Has.f k x.1 x.2)) := sig_ok s_l1Has.s .nil (by kernel_rfl) fun _ => opq_eq _
noncomputable def s_l1Has.l0 (k : Nat) (m : Nat) (n1 : Int) (t7 : List Int) (t8 : Int) (t9 : Int) : Option Bool := s_l1Has.s.head Try.prog (s_l1Has.C k) k 1 0 [] m [(1, AV.int IntKind.i64 n1), (7, AV.row 3 (Kind.int IntKind.i64) t7), (8, AV.int IntKind.i64 t8), (9, AV.int IntKind.i64 t9)] [Root.dead]
theorem s_l1Has.l0_z (k : Nat) (n1 : Int) (t7 : List Int) (t8 : Int) (t9 : Int) : s_l1Has.l0 k 0 n1 t7 t8 t9 = none := by kernel_rfl
theorem s_l1Has.l0_s (k : Nat) (m : Nat) (n1 : Int) (t7 : List Int) (t8 : Int) (t9 : Int) : s_l1Has.l0 k (m + 1) n1 t7 t8 t9 =
 cn (decide (t9 < t8))
 (gd (inb t9 t7.length)
  (cn (decide (getAt (0 : Int) t7 t9.toNat = n1))
   (some true)
   (s_l1Has.l0 k m n1 t7 t8 (IntKind.i64.wrap (t9 + (1 : Int))))))
 (some false) := by kernel_rfl
theorem s_l1Has.f_eq (k : Nat) (l : List Int) (n : Int) : s_l1Has.f k l n =
 s_l1Has.l0 k k n l ((↑l.length : Int)) ((0 : Int)) := (opq_eq _).trans (by kernel_rfl)
abbrev s_l7Kept.s : Sig := ⟨95, [], [.val, .val], [.agg [.row 9 .str, .row 9 .str, .row 4 .bool], .one (.row 3 (.int .i64))], [.one .bool], [], [(0, [(1,false),(5,true),(10,true),(11,false),(12,false)])]⟩
noncomputable def s_l7Kept.C (k : Nat) : List (Nat × Ctr) := [(106, s_l1Has.s.ctr (fun x => s_l1Has.f k x.1 x.2)), (97, s_l7Held.s.ctr (fun x => s_l7Held.f k x.1 x.2.1 x.2.2))]
noncomputable def s_l7Kept.f (k : Nat) (d_Plate : List ByteArray) (d_Held : List ByteArray) (d_Bad : List Bool) (kept : List Int) : Option Bool := opq (s_l7Kept.s.run Try.prog (s_l7Kept.C k) k ((d_Plate, d_Held, d_Bad), kept))
theorem s_l7Kept.ok (k : Nat) : CtrOk Try.prog 95 (s_l7Kept.s.ctr (fun x => s_l7Kept.f k x.1.1 x.1.2.1 x.1.2.2 x.2)) := sig_ok s_l7Kept.s (.cons (s_l1Has.ok k) (.cons (s_l7Held.ok k) .nil)) (by kernel_rfl) fun _ => opq_eq _
noncomputable def s_l7Kept.l0 (k : Nat) (m : Nat) (kept1 : List Int) (t10 : List Int) (t11 : Int) (t12 : Int) (h1 : List Int) : Option Bool := s_l7Kept.s.head Try.prog (s_l7Kept.C k) k 1 0 [] m [(1, AV.row 3 (Kind.int IntKind.i64) kept1), (5, AV.ref 1), (10, AV.row 3 (Kind.int IntKind.i64) t10), (11, AV.int IntKind.i64 t11), (12, AV.int IntKind.i64 t12)] [Root.dead, Root.rows 3 (Kind.int IntKind.i64) h1]
theorem s_l7Kept.l0_z (k : Nat) (kept1 : List Int) (t10 : List Int) (t11 : Int) (t12 : Int) (h1 : List Int) : s_l7Kept.l0 k 0 kept1 t10 t11 t12 h1 = none := by kernel_rfl
theorem s_l7Kept.l0_s (k : Nat) (m : Nat) (kept1 : List Int) (t10 : List Int) (t11 : Int) (t12 : Int) (h1 : List Int) : s_l7Kept.l0 k (m + 1) kept1 t10 t11 t12 h1 =
 cn (decide (t12 < t11))
 (gd (inb t12 t10.length)
  ((s_l1Has.f k h1 (getAt (0 : Int) t10 t12.toNat)).bind fun d1 =>
   cn (!d1)
   (some false)
   (cn (decide ((0 : Int) < t12))
    (gd (inb (IntKind.i64.wrap (t12 - (1 : Int))) kept1.length)
     (cn (decide (getAt (0 : Int) t10 t12.toNat ≤ getAt (0 : Int) kept1 (IntKind.i64.wrap (t12 - (1 : Int))).toNat))
      (some false)
      (s_l7Kept.l0 k m kept1 t10 t11 (IntKind.i64.wrap (t12 + (1 : Int))) h1)))
    (s_l7Kept.l0 k m kept1 t10 t11 (IntKind.i64.wrap (t12 + (1 : Int))) h1))))
 (some true) := by kernel_rfl
theorem s_l7Kept.f_eq (k : Nat) (d_Plate : List ByteArray) (d_Held : List ByteArray) (d_Bad : List Bool) (kept : List Int) : s_l7Kept.f k d_Plate d_Held d_Bad kept =
 (s_l7Held.f k d_Plate d_Held d_Bad).bind fun d0 =>
 s_l7Kept.l0 k k kept kept ((↑kept.length : Int)) ((0 : Int)) d0 := (opq_eq _).trans (by kernel_rfl)
abbrev s_l7Crash.s : Sig := ⟨96, [.agg 3, .one], [.chg, .chg, .chg, .val], [.one (.row 9 .str), .one (.row 9 .str), .one (.row 4 .bool), .one (.row 3 (.int .i64))], [.agg [.arg 1, .arg 2, .arg 3]], [.rows 9 .str, .rows 9 .str, .rows 4 .bool], [(0, [(1,false),(2,false),(4,false),(8,true),(9,false),(10,false)])]⟩
noncomputable def s_l7Crash.C (k : Nat) : List (Nat × Ctr) := [(106, s_l1Has.s.ctr (fun x => s_l1Has.f k x.1 x.2))]
noncomputable def s_l7Crash.f (k : Nat) (d_Plate : List ByteArray) (d_Held : List ByteArray) (d_Bad : List Bool) (kept : List Int) : Option ((Unit × Unit × Unit) × List ByteArray × List ByteArray × List Bool) := opq (s_l7Crash.s.run Try.prog (s_l7Crash.C k) k (d_Plate, d_Held, d_Bad, kept))
theorem s_l7Crash.ok (k : Nat) : CtrOk Try.prog 96 (s_l7Crash.s.ctr (fun x => s_l7Crash.f k x.1 x.2.1 x.2.2.1 x.2.2.2)) := sig_ok s_l7Crash.s (.cons (s_l1Has.ok k) .nil) (by kernel_rfl) fun _ => opq_eq _
noncomputable def s_l7Crash.l0 (k : Nat) (m : Nat) (kept1 : List Int) (t9 : Int) (t10 : Int) (h1 : List ByteArray) (h2 : List ByteArray) (h3 : List Bool) : Option ((Unit × Unit × Unit) × List ByteArray × List ByteArray × List Bool) := s_l7Crash.s.head Try.prog (s_l7Crash.C k) k 4 0 [] m [(1, AV.row 3 (Kind.int IntKind.i64) kept1), (2, AV.ptr 4 0 0), (4, AV.ptr 5 0 0), (8, AV.ref 2), (9, AV.int IntKind.i64 t9), (10, AV.int IntKind.i64 t10)] [Root.dead, Root.rows 9 Kind.str h1, Root.rows 9 Kind.str h2, Root.rows 4 Kind.bool h3, Root.box 31 [AV.ref 1, AV.ref 2, AV.ref 3], Root.box 31 [AV.nil 9 Kind.str, AV.nil 9 Kind.str, AV.nil 4 Kind.bool]]
theorem s_l7Crash.l0_z (k : Nat) (kept1 : List Int) (t9 : Int) (t10 : Int) (h1 : List ByteArray) (h2 : List ByteArray) (h3 : List Bool) : s_l7Crash.l0 k 0 kept1 t9 t10 h1 h2 h3 = none := by kernel_rfl
theorem s_l7Crash.l0_s (k : Nat) (m : Nat) (kept1 : List Int) (t9 : Int) (t10 : Int) (h1 : List ByteArray) (h2 : List ByteArray) (h3 : List Bool) : s_l7Crash.l0 k (m + 1) kept1 t9 t10 h1 h2 h3 =
 cn (decide (t10 < t9))
 (gd (inb t10 h2.length)
  ((s_l1Has.f k kept1 t10).bind fun d0 =>
   cn d0
   (gd (inb t10 h1.length)
    (gd (inb t10 h2.length)
     (s_l7Crash.l0 k m kept1 t9 (IntKind.i64.wrap (t10 + (1 : Int))) (h1.set t10.toNat (getAt ByteArray.empty h2 t10.toNat)) (h2.set t10.toNat ByteArray.empty) h3)))
   (gd (inb t10 h2.length)
    (s_l7Crash.l0 k m kept1 t9 (IntKind.i64.wrap (t10 + (1 : Int))) h1 (h2.set t10.toNat ByteArray.empty) h3))))
 (some ((((), (), ()), h1, h2, h3))) := by kernel_rfl
theorem s_l7Crash.f_eq (k : Nat) (d_Plate : List ByteArray) (d_Held : List ByteArray) (d_Bad : List Bool) (kept : List Int) : s_l7Crash.f k d_Plate d_Held d_Bad kept =
 s_l7Crash.l0 k k kept ((↑d_Held.length : Int)) ((0 : Int)) d_Plate d_Held d_Bad := (opq_eq _).trans (by kernel_rfl)
abbrev s_l7There.s : Sig := ⟨98, [], [.val, .val], [.agg [.row 9 .str, .row 9 .str, .row 4 .bool], .one (.int .i64)], [.one .bool], [], []⟩
noncomputable def s_l7There.C (k : Nat) : List (Nat × Ctr) := []
noncomputable def s_l7There.f (k : Nat) (d_Plate : List ByteArray) (d_Held : List ByteArray) (d_Bad : List Bool) (at_ : Int) : Option Bool := opq (s_l7There.s.run Try.prog (s_l7There.C k) k ((d_Plate, d_Held, d_Bad), at_))
theorem s_l7There.ok (k : Nat) : CtrOk Try.prog 98 (s_l7There.s.ctr (fun x => s_l7There.f k x.1.1 x.1.2.1 x.1.2.2 x.2)) := sig_ok s_l7There.s .nil (by kernel_rfl) fun _ => opq_eq _
theorem s_l7There.f_eq (k : Nat) (d_Plate : List ByteArray) (d_Held : List ByteArray) (d_Bad : List Bool) (at_ : Int) : s_l7There.f k d_Plate d_Held d_Bad at_ =
 cn (decide ((0 : Int) ≤ at_))
 (some (decide (at_ < (↑d_Plate.length : Int))))
 (some false) := (opq_eq _).trans (by kernel_rfl)
abbrev s_l7Rot.s : Sig := ⟨99, [], [.val, .val], [.one .str, .one .str], [.one .str], [], [(0, [(1,false),(5,true),(6,false)])]⟩
noncomputable def s_l7Rot.C (k : Nat) : List (Nat × Ctr) := []
noncomputable def s_l7Rot.f (k : Nat) (s : ByteArray) (mask : ByteArray) : Option ByteArray := opq (s_l7Rot.s.run Try.prog (s_l7Rot.C k) k (s, mask))
theorem s_l7Rot.ok (k : Nat) : CtrOk Try.prog 99 (s_l7Rot.s.ctr (fun x => s_l7Rot.f k x.1 x.2)) := sig_ok s_l7Rot.s .nil (by kernel_rfl) fun _ => opq_eq _
noncomputable def s_l7Rot.l0 (k : Nat) (m : Nat) (mask1 : ByteArray) (i6 : Int) (h1 : List Int) : Option ByteArray := s_l7Rot.s.head Try.prog (s_l7Rot.C k) k 1 0 [] m [(1, AV.str mask1), (5, AV.ref 1), (6, AV.int IntKind.i64 i6)] [Root.dead, Root.rows 5 (Kind.int IntKind.u8) h1]
theorem s_l7Rot.l0_z (k : Nat) (mask1 : ByteArray) (i6 : Int) (h1 : List Int) : s_l7Rot.l0 k 0 mask1 i6 h1 = none := by kernel_rfl
theorem s_l7Rot.l0_s (k : Nat) (m : Nat) (mask1 : ByteArray) (i6 : Int) (h1 : List Int) : s_l7Rot.l0 k (m + 1) mask1 i6 h1 =
 cn (decide (i6 < (↑mask1.size : Int)))
 (gd (inb i6 h1.length)
  (gd (inb i6 mask1.size)
   (gd (inb i6 h1.length)
    (s_l7Rot.l0 k m mask1 (IntKind.i64.wrap (i6 + (1 : Int))) (h1.set i6.toNat (IntKind.u8.wrap (↑(BitVec.ofInt (8 : Nat) (getAt (0 : Int) h1 i6.toNat) ^^^ BitVec.ofInt (8 : Nat) (↑(mask1.data.getD i6.toNat (0 : UInt8)).toNat : Int)).toNat : Int)))))))
 (some (strOfNums h1)) := by kernel_rfl
theorem s_l7Rot.f_eq (k : Nat) (s : ByteArray) (mask : ByteArray) : s_l7Rot.f k s mask =
 gd (decide (s.size ≤ (70368744177664 : Nat)))
 (s_l7Rot.l0 k k mask ((0 : Int)) (bytesL s)) := (opq_eq _).trans (by kernel_rfl)
abbrev s_l7Step.s : Sig := ⟨79, [.agg 3, .one], [.chg, .chg, .chg, .val], [.one (.row 9 .str), .one (.row 9 .str), .one (.row 4 .bool), .agg [.int .i64, .int .i64, .str, .row 3 (.int .i64)]], [.agg [.arg 1, .arg 2, .arg 3], .one .bool], [.rows 9 .str, .rows 9 .str, .rows 4 .bool], []⟩
noncomputable def s_l7Step.C (k : Nat) : List (Nat × Ctr) := [(42, s_l1In.s.ctr (fun x => s_l1In.f k x.1 x.2.1 x.2.2)), (95, s_l7Kept.s.ctr (fun x => s_l7Kept.f k x.1.1 x.1.2.1 x.1.2.2 x.2)), (96, s_l7Crash.s.ctr (fun x => s_l7Crash.f k x.1 x.2.1 x.2.2.1 x.2.2.2)), (97, s_l7Held.s.ctr (fun x => s_l7Held.f k x.1 x.2.1 x.2.2)), (98, s_l7There.s.ctr (fun x => s_l7There.f k x.1.1 x.1.2.1 x.1.2.2 x.2)), (99, s_l7Rot.s.ctr (fun x => s_l7Rot.f k x.1 x.2))]
noncomputable def s_l7Step.f (k : Nat) (d_Plate : List ByteArray) (d_Held : List ByteArray) (d_Bad : List Bool) (x_Kind : Int) (x_At : Int) (x_Text : ByteArray) (x_Kept : List Int) : Option (((Unit × Unit × Unit) × Bool) × List ByteArray × List ByteArray × List Bool) := opq (s_l7Step.s.run Try.prog (s_l7Step.C k) k (d_Plate, d_Held, d_Bad, (x_Kind, x_At, x_Text, x_Kept)))
theorem s_l7Step.ok (k : Nat) : CtrOk Try.prog 79 (s_l7Step.s.ctr (fun x => s_l7Step.f k x.1 x.2.1 x.2.2.1 x.2.2.2.1 x.2.2.2.2.1 x.2.2.2.2.2.1 x.2.2.2.2.2.2)) := sig_ok s_l7Step.s (.cons (s_l1In.ok k) (.cons (s_l7Kept.ok k) (.cons (s_l7Crash.ok k) (.cons (s_l7Held.ok k) (.cons (s_l7There.ok k) (.cons (s_l7Rot.ok k) .nil)))))) (by kernel_rfl) fun _ => opq_eq _
theorem s_l7Step.f_eq (k : Nat) (d_Plate : List ByteArray) (d_Held : List ByteArray) (d_Bad : List Bool) (x_Kind : Int) (x_At : Int) (x_Text : ByteArray) (x_Kept : List Int) : s_l7Step.f k d_Plate d_Held d_Bad x_Kind x_At x_Text x_Kept =

 let z2 : Option (((Unit × Unit × Unit) × Bool) × List ByteArray × List ByteArray × List Bool) := (s_l7Kept.f k d_Plate d_Held d_Bad x_Kept).bind fun d0 => cn (!d0) (some ((((() , () , ()) , false) , d_Plate, d_Held, d_Bad))) (cn (decide (x_Kind = (2 : Int))) ((s_l7Held.f k d_Plate d_Held d_Bad).bind fun d1 => (s_l7Crash.f k d_Plate d_Held d_Bad d1).bind fun d2 => some ((((() , () , ()) , true) , d2.snd.fst, d2.snd.snd.fst, d2.snd.snd.snd))) ((s_l7Crash.f k d_Plate d_Held d_Bad x_Kept).bind fun d1 => some ((((() , () , ()) , true) , d1.snd.fst, d1.snd.snd.fst, d1.snd.snd.snd))));
 let z5 : Option (((Unit × Unit × Unit) × Bool) × List ByteArray × List ByteArray × List Bool) := cn (!decide (x_At = (0 : Int))) (some ((((() , () , ()) , false) , d_Plate, d_Held, d_Bad))) (cn (!decide (x_Text.toList = ByteArray.empty.toList)) (some ((((() , () , ()) , false) , d_Plate, d_Held, d_Bad))) (cn (decide (x_Kind = (2 : Int))) (cn (decide ((0 : Int) < (↑x_Kept.length : Int))) (some ((((() , () , ()) , false) , d_Plate, d_Held, d_Bad))) z2) z2));
 let z12 : Option (((Unit × Unit × Unit) × Bool) × List ByteArray × List ByteArray × List Bool) := cn (decide (x_Kind = (6 : Int))) (cn (decide (x_Text.toList = ByteArray.empty.toList)) (gd (inb x_At d_Bad.length) (cn (getAt false d_Bad x_At.toNat) (gd (inb x_At d_Bad.length) (gd (inb x_At d_Plate.length) (some ((((() , () , ()) , true) , d_Plate.set x_At.toNat ByteArray.empty, d_Held, d_Bad.set x_At.toNat false))))) (some ((((() , () , ()) , false) , d_Plate, d_Held, d_Bad))))) (some ((((() , () , ()) , false) , d_Plate, d_Held, d_Bad)))) (some ((((() , () , ()) , false) , d_Plate, d_Held, d_Bad)));
 let z13 : Option (((Unit × Unit × Unit) × Bool) × List ByteArray × List ByteArray × List Bool) := cn (decide (x_Text.toList = ByteArray.empty.toList)) (gd (inb x_At d_Bad.length) (gd (inb x_At d_Held.length) (some ((((() , () , ()) , true) , d_Plate, d_Held.set x_At.toNat ByteArray.empty, d_Bad.set x_At.toNat true))))) z12;
 let z23 : Option (((Unit × Unit × Unit) × Bool) × List ByteArray × List ByteArray × List Bool) := cn (decide (x_Kind = (4 : Int))) (gd (inb x_At d_Held.length) (cn (decide ((getAt ByteArray.empty d_Held x_At.toNat).toList = ByteArray.empty.toList)) (gd (inb x_At d_Plate.length) (cn (!decide ((getAt ByteArray.empty d_Plate x_At.toNat).toList = ByteArray.empty.toList)) (gd (inb x_At d_Plate.length) ((s_l1In.f k (↑x_Text.size : Int) (1 : Int) (↑ (getAt ByteArray.empty d_Plate x_At.toNat).size : Int)).bind fun d1 => cn d1 (gd (inb x_At d_Plate.length) ((s_l7Rot.f k (getAt ByteArray.empty d_Plate x_At.toNat) x_Text).bind fun d2 => gd (inb x_At d_Plate.length) (some ((((() , () , ()) , true) , d_Plate.set x_At.toNat d2, d_Held, d_Bad))))) (cn (decide (x_Kind = (5 : Int))) z13 z12))) (cn (decide (x_Kind = (5 : Int))) z13 z12))) (cn (decide (x_Kind = (5 : Int))) z13 z12))) (cn (decide (x_Kind = (5 : Int))) z13 z12);
 cn (decide (x_Kind = (2 : Int))) z5 (cn (decide (x_Kind = (3 : Int))) z5 ((s_l7There.f k d_Plate d_Held d_Bad x_At).bind fun d0 => cn (!d0) (some ((((() , () , ()) , false) , d_Plate, d_Held, d_Bad))) (cn (decide ((0 : Int) < (↑x_Kept.length : Int))) (some ((((() , () , ()) , false) , d_Plate, d_Held, d_Bad))) (cn (decide (x_Kind = (1 : Int))) (gd (inb x_At d_Bad.length) (cn (!getAt false d_Bad x_At.toNat) ((s_l1In.f k (↑x_Text.size : Int) (1 : Int) (28 : Int)).bind fun d1 => cn d1 (gd (inb x_At d_Held.length) (some ((((() , () , ()) , true) , d_Plate, d_Held.set x_At.toNat x_Text, d_Bad)))) (cn (decide (x_Kind = (4 : Int))) (gd (inb x_At d_Held.length) (cn (decide ((getAt ByteArray.empty d_Held x_At.toNat).toList = ByteArray.empty.toList)) (gd (inb x_At d_Plate.length) (cn (!decide ((getAt ByteArray.empty d_Plate x_At.toNat).toList = ByteArray.empty.toList)) (gd (inb x_At d_Plate.length) ((s_l1In.f k (↑x_Text.size : Int) (1 : Int) (↑ (getAt ByteArray.empty d_Plate x_At.toNat).size : Int)).bind fun d2 => cn d2 (gd (inb x_At d_Plate.length) ((s_l7Rot.f k (getAt ByteArray.empty d_Plate x_At.toNat) x_Text).bind fun d3 => gd (inb x_At d_Plate.length) (some ((((() , () , ()) , true) , d_Plate.set x_At.toNat d3, d_Held, d_Bad))))) (cn (decide (x_Kind = (5 : Int))) z13 z12))) (cn (decide (x_Kind = (5 : Int))) z13 z12))) (cn (decide (x_Kind = (5 : Int))) z13 z12))) (cn (decide (x_Kind = (5 : Int))) z13 z12))) z23)) z23)))) := (opq_eq _).trans (by kernel_rfl)
abbrev s_RotIn.s : Sig := ⟨36, [], [.val, .val, .val], [.agg [.row 9 .str, .row 9 .str, .row 4 .bool, .row 3 (.int .i64), .int .i64, .int .i64], .one (.int .i64), .one .str], [.agg [.own 9 .str, .own 9 .str, .own 4 .bool, .own 3 (.int .i64), .int .i64, .int .i64], .one .bool], [], []⟩
noncomputable def s_RotIn.C (k : Nat) : List (Nat × Ctr) := [(10, s_GoodScrub.s.ctr (fun x => s_GoodScrub.f k x.1 x.2.1 x.2.2.1 x.2.2.2.1 x.2.2.2.2.1 x.2.2.2.2.2)), (42, s_l1In.s.ctr (fun x => s_l1In.f k x.1 x.2.1 x.2.2)), (78, s_l16Own.s.ctr (fun x => s_l16Own.f k x.1 x.2.1 x.2.2.1 x.2.2.2.1 x.2.2.2.2.1 x.2.2.2.2.2)), (79, s_l7Step.s.ctr (fun x => s_l7Step.f k x.1 x.2.1 x.2.2.1 x.2.2.2.1 x.2.2.2.2.1 x.2.2.2.2.2.1 x.2.2.2.2.2.2))]
noncomputable def s_RotIn.f (k : Nat) (s_Disk_Plate : List ByteArray) (s_Disk_Held : List ByteArray) (s_Disk_Bad : List Bool) (s_Epochs : List Int) (s_Cursor : Int) (s_Mended : Int) (at_ : Int) (mask : ByteArray) : Option ((List ByteArray × List ByteArray × List Bool × List Int × Int × Int) × Bool) := opq (s_RotIn.s.run Try.prog (s_RotIn.C k) k ((s_Disk_Plate, s_Disk_Held, s_Disk_Bad, s_Epochs, s_Cursor, s_Mended), at_, mask))
theorem s_RotIn.ok (k : Nat) : CtrOk Try.prog 36 (s_RotIn.s.ctr (fun x => s_RotIn.f k x.1.1 x.1.2.1 x.1.2.2.1 x.1.2.2.2.1 x.1.2.2.2.2.1 x.1.2.2.2.2.2 x.2.1 x.2.2)) := sig_ok s_RotIn.s (.cons (s_GoodScrub.ok k) (.cons (s_l1In.ok k) (.cons (s_l16Own.ok k) (.cons (s_l7Step.ok k) .nil)))) (by kernel_rfl) fun _ => opq_eq _
theorem s_RotIn.f_eq (k : Nat) (s_Disk_Plate : List ByteArray) (s_Disk_Held : List ByteArray) (s_Disk_Bad : List Bool) (s_Epochs : List Int) (s_Cursor : Int) (s_Mended : Int) (at_ : Int) (mask : ByteArray) : s_RotIn.f k s_Disk_Plate s_Disk_Held s_Disk_Bad s_Epochs s_Cursor s_Mended at_ mask =
 (s_GoodScrub.f k s_Disk_Plate s_Disk_Held s_Disk_Bad s_Epochs s_Cursor s_Mended).bind fun d0 =>
 cn (!d0)
 (some ((([], [], [], [], (0 : Int), (0 : Int)), false)))
 ((s_l1In.f k (↑mask.size : Int) (1 : Int) (4 : Int)).bind fun d1 =>
  cn (!d1)
  (some ((([], [], [], [], (0 : Int), (0 : Int)), false)))
  ((s_l16Own.f k s_Disk_Plate s_Disk_Held s_Disk_Bad s_Epochs s_Cursor s_Mended).bind fun d2 =>
   (s_l7Step.f k d2.fst d2.snd.fst d2.snd.snd.fst (4 : Int) at_ mask []).bind fun d3 =>
   cn (!d3.fst.snd)
   (some ((([], [], [], [], (0 : Int), (0 : Int)), false)))
   (some (((d3.snd.fst, d3.snd.snd.fst, d3.snd.snd.snd, d2.snd.snd.snd.fst, d2.snd.snd.snd.snd.fst, d2.snd.snd.snd.snd.snd), true))))) := (opq_eq _).trans (by kernel_rfl)
abbrev i_within.s : Sig := ⟨46, [], [.val, .val, .val], [.one (.int .i64), .one (.int .i64), .one (.int .i64)], [.one .bool], [], []⟩
noncomputable def i_within.C (k : Nat) : List (Nat × Ctr) := []
noncomputable def i_within.f (k : Nat) (n : Int) (low : Int) (high : Int) : Option Bool := opq (i_within.s.run Try.prog (i_within.C k) k (n, low, high))
theorem i_within.ok (k : Nat) : CtrOk Try.prog 46 (i_within.s.ctr (fun x => i_within.f k x.1 x.2.1 x.2.2)) := sig_ok i_within.s .nil (by kernel_rfl) fun _ => opq_eq _
theorem i_within.f_eq (k : Nat) (n : Int) (low : Int) (high : Int) : i_within.f k n low high =
 cn (decide (low ≤ n))
 (some (decide (n ≤ high)))
 (some false) := (opq_eq _).trans (by kernel_rfl)
abbrev i_GoodDisk.s : Sig := ⟨47, [], [.val], [.agg [.row 9 .str, .row 9 .str, .row 4 .bool]], [.one .bool], [], [(0, [(1,false),(27,true),(28,false),(29,false)])]⟩
noncomputable def i_GoodDisk.C (k : Nat) : List (Nat × Ctr) := [(46, i_within.s.ctr (fun x => i_within.f k x.1 x.2.1 x.2.2))]
noncomputable def i_GoodDisk.f (k : Nat) (d_Plate : List ByteArray) (d_Held : List ByteArray) (d_Bad : List Bool) : Option Bool := opq (i_GoodDisk.s.run Try.prog (i_GoodDisk.C k) k (d_Plate, d_Held, d_Bad))
theorem i_GoodDisk.ok (k : Nat) : CtrOk Try.prog 47 (i_GoodDisk.s.ctr (fun x => i_GoodDisk.f k x.1 x.2.1 x.2.2)) := sig_ok i_GoodDisk.s (.cons (i_within.ok k) .nil) (by kernel_rfl) fun _ => opq_eq _
noncomputable def i_GoodDisk.l0 (k : Nat) (m : Nat) (t27 : List ByteArray) (t28 : Int) (t29 : Int) (h1 : List ByteArray) (h1_ : List ByteArray) (h1__ : List Bool) : Option Bool := i_GoodDisk.s.head Try.prog (i_GoodDisk.C k) k 1 0 [] m [(1, AV.ptr 1 0 0), (27, AV.row 9 Kind.str t27), (28, AV.int IntKind.i64 t28), (29, AV.int IntKind.i64 t29)] [Root.dead, Root.box 31 [AV.row 9 Kind.str h1, AV.row 9 Kind.str h1_, AV.row 4 Kind.bool h1__]]
theorem i_GoodDisk.l0_z (k : Nat) (t27 : List ByteArray) (t28 : Int) (t29 : Int) (h1 : List ByteArray) (h1_ : List ByteArray) (h1__ : List Bool) : i_GoodDisk.l0 k 0 t27 t28 t29 h1 h1_ h1__ = none := by kernel_rfl
theorem i_GoodDisk.l0_s (k : Nat) (m : Nat) (t27 : List ByteArray) (t28 : Int) (t29 : Int) (h1 : List ByteArray) (h1_ : List ByteArray) (h1__ : List Bool) : i_GoodDisk.l0 k (m + 1) t27 t28 t29 h1 h1_ h1__ =
 cn (decide (t29 < t28))
 (gd (inb t29 t27.length)
  (cn (decide ((28 : Int) < (↑(getAt ByteArray.empty t27 t29.toNat).size : Int)))
   (some false)
   (gd (inb t29 h1_.length)
    (cn (decide ((28 : Int) < (↑(getAt ByteArray.empty h1_ t29.toNat).size : Int)))
     (some false)
     (gd (inb t29 h1__.length)
      (cn (getAt false h1__ t29.toNat)
       (gd (inb t29 h1_.length)
        (cn (!decide ((getAt ByteArray.empty h1_ t29.toNat).toList = ByteArray.empty.toList))
         (some false)
         (i_GoodDisk.l0 k m t27 t28 (IntKind.i64.wrap (t29 + (1 : Int))) h1 h1_ h1__)))
       (i_GoodDisk.l0 k m t27 t28 (IntKind.i64.wrap (t29 + (1 : Int))) h1 h1_ h1__)))))))
 (some true) := by kernel_rfl
theorem i_GoodDisk.f_eq (k : Nat) (d_Plate : List ByteArray) (d_Held : List ByteArray) (d_Bad : List Bool) : i_GoodDisk.f k d_Plate d_Held d_Bad =
 (i_within.f k (↑d_Plate.length : Int) (1 : Int) (24 : Int)).bind fun d0 =>
 cn (!d0)
 (some false)
 (cn (!decide ((↑d_Held.length : Int) = (↑d_Plate.length : Int)))
  (some false)
  (cn (!decide ((↑d_Bad.length : Int) = (↑d_Plate.length : Int)))
   (some false)
   (i_GoodDisk.l0 k k d_Plate ((↑d_Plate.length : Int)) ((0 : Int)) d_Plate d_Held d_Bad))) := (opq_eq _).trans (by kernel_rfl)
abbrev i_GoodScrub_1.s : Sig := ⟨49, [], [.val], [.one (.int .i64)], [.one .bool], [], []⟩
noncomputable def i_GoodScrub_1.C (k : Nat) : List (Nat × Ctr) := [(46, i_within.s.ctr (fun x => i_within.f k x.1 x.2.1 x.2.2))]
noncomputable def i_GoodScrub_1.f (k : Nat) (e : Int) : Option Bool := opq (i_GoodScrub_1.s.run Try.prog (i_GoodScrub_1.C k) k e)
theorem i_GoodScrub_1.ok (k : Nat) : CtrOk Try.prog 49 (i_GoodScrub_1.s.ctr (fun x => i_GoodScrub_1.f k x)) := sig_ok i_GoodScrub_1.s (.cons (i_within.ok k) .nil) (by kernel_rfl) fun _ => opq_eq _
theorem i_GoodScrub_1.f_eq (k : Nat) (e : Int) : i_GoodScrub_1.f k e =
 (i_within.f k e (0 : Int) (60000 : Int)).bind fun d0 =>
 some (!d0) := (opq_eq _).trans (by kernel_rfl)
abbrev b_IndexFunc_int__i_GoodScrub_1.s : Sig := ⟨88, [], [.val, .val], [.one (.row 3 (.int .i64)), .one (.fn 49)], [.one (.int .i64)], [], [(0, [(0,false),(1,false),(7,false),(8,false)])]⟩
noncomputable def b_IndexFunc_int__i_GoodScrub_1.C (k : Nat) : List (Nat × Ctr) := [(49, i_GoodScrub_1.s.ctr (fun x => i_GoodScrub_1.f k x))]
noncomputable def b_IndexFunc_int__i_GoodScrub_1.f (k : Nat) (s : List Int) : Option Int := opq (b_IndexFunc_int__i_GoodScrub_1.s.run Try.prog (b_IndexFunc_int__i_GoodScrub_1.C k) k (s, ()))
theorem b_IndexFunc_int__i_GoodScrub_1.ok (k : Nat) : CtrOk Try.prog 88 (b_IndexFunc_int__i_GoodScrub_1.s.ctr (fun x => b_IndexFunc_int__i_GoodScrub_1.f k x.1)) := sig_ok b_IndexFunc_int__i_GoodScrub_1.s (.cons (i_GoodScrub_1.ok k) .nil) (by kernel_rfl) fun _ => opq_eq _
noncomputable def b_IndexFunc_int__i_GoodScrub_1.l0 (k : Nat) (m : Nat) (s0 : List Int) (t7 : Int) (t8 : Int) : Option Int := b_IndexFunc_int__i_GoodScrub_1.s.head Try.prog (b_IndexFunc_int__i_GoodScrub_1.C k) k 1 0 [] m [(0, AV.row 3 (Kind.int IntKind.i64) s0), (1, AV.fn 49), (7, AV.int IntKind.i64 t7), (8, AV.int IntKind.i64 t8)] [Root.dead]
theorem b_IndexFunc_int__i_GoodScrub_1.l0_z (k : Nat) (s0 : List Int) (t7 : Int) (t8 : Int) : b_IndexFunc_int__i_GoodScrub_1.l0 k 0 s0 t7 t8 = none := by kernel_rfl
theorem b_IndexFunc_int__i_GoodScrub_1.l0_s (k : Nat) (m : Nat) (s0 : List Int) (t7 : Int) (t8 : Int) : b_IndexFunc_int__i_GoodScrub_1.l0 k (m + 1) s0 t7 t8 =
 cn (decide (t8 < t7))
 (gd (inb t8 s0.length)
  ((i_GoodScrub_1.f k (getAt (0 : Int) s0 t8.toNat)).bind fun d0 =>
   cn d0
   (some t8)
   (b_IndexFunc_int__i_GoodScrub_1.l0 k m s0 t7 (IntKind.i64.wrap (t8 + (1 : Int))))))
 (some ((-1 : Int))) := by kernel_rfl
theorem b_IndexFunc_int__i_GoodScrub_1.f_eq (k : Nat) (s : List Int) : b_IndexFunc_int__i_GoodScrub_1.f k s =
 b_IndexFunc_int__i_GoodScrub_1.l0 k k s ((↑s.length : Int)) ((0 : Int)) := (opq_eq _).trans (by kernel_rfl)
abbrev b_ContainsFunc_int__i_GoodScrub_1.s : Sig := ⟨48, [], [.val, .val], [.one (.row 3 (.int .i64)), .one (.fn 49)], [.one .bool], [], []⟩
noncomputable def b_ContainsFunc_int__i_GoodScrub_1.C (k : Nat) : List (Nat × Ctr) := [(88, b_IndexFunc_int__i_GoodScrub_1.s.ctr (fun x => b_IndexFunc_int__i_GoodScrub_1.f k x.1))]
noncomputable def b_ContainsFunc_int__i_GoodScrub_1.f (k : Nat) (s : List Int) : Option Bool := opq (b_ContainsFunc_int__i_GoodScrub_1.s.run Try.prog (b_ContainsFunc_int__i_GoodScrub_1.C k) k (s, ()))
theorem b_ContainsFunc_int__i_GoodScrub_1.ok (k : Nat) : CtrOk Try.prog 48 (b_ContainsFunc_int__i_GoodScrub_1.s.ctr (fun x => b_ContainsFunc_int__i_GoodScrub_1.f k x.1)) := sig_ok b_ContainsFunc_int__i_GoodScrub_1.s (.cons (b_IndexFunc_int__i_GoodScrub_1.ok k) .nil) (by kernel_rfl) fun _ => opq_eq _
theorem b_ContainsFunc_int__i_GoodScrub_1.f_eq (k : Nat) (s : List Int) : b_ContainsFunc_int__i_GoodScrub_1.f k s =
 (b_IndexFunc_int__i_GoodScrub_1.f k s).bind fun d0 =>
 some (decide ((0 : Int) ≤ d0)) := (opq_eq _).trans (by kernel_rfl)
abbrev i_GoodScrub.s : Sig := ⟨12, [], [.val], [.agg [.row 9 .str, .row 9 .str, .row 4 .bool, .row 3 (.int .i64), .int .i64, .int .i64]], [.one .bool], [], []⟩
noncomputable def i_GoodScrub.C (k : Nat) : List (Nat × Ctr) := [(46, i_within.s.ctr (fun x => i_within.f k x.1 x.2.1 x.2.2)), (47, i_GoodDisk.s.ctr (fun x => i_GoodDisk.f k x.1 x.2.1 x.2.2)), (48, b_ContainsFunc_int__i_GoodScrub_1.s.ctr (fun x => b_ContainsFunc_int__i_GoodScrub_1.f k x.1))]
noncomputable def i_GoodScrub.f (k : Nat) (s_Disk_Plate : List ByteArray) (s_Disk_Held : List ByteArray) (s_Disk_Bad : List Bool) (s_Epochs : List Int) (s_Cursor : Int) (s_Mended : Int) : Option Bool := opq (i_GoodScrub.s.run Try.prog (i_GoodScrub.C k) k (s_Disk_Plate, s_Disk_Held, s_Disk_Bad, s_Epochs, s_Cursor, s_Mended))
theorem i_GoodScrub.ok (k : Nat) : CtrOk Try.prog 12 (i_GoodScrub.s.ctr (fun x => i_GoodScrub.f k x.1 x.2.1 x.2.2.1 x.2.2.2.1 x.2.2.2.2.1 x.2.2.2.2.2)) := sig_ok i_GoodScrub.s (.cons (i_within.ok k) (.cons (i_GoodDisk.ok k) (.cons (b_ContainsFunc_int__i_GoodScrub_1.ok k) .nil))) (by kernel_rfl) fun _ => opq_eq _
theorem i_GoodScrub.f_eq (k : Nat) (s_Disk_Plate : List ByteArray) (s_Disk_Held : List ByteArray) (s_Disk_Bad : List Bool) (s_Epochs : List Int) (s_Cursor : Int) (s_Mended : Int) : i_GoodScrub.f k s_Disk_Plate s_Disk_Held s_Disk_Bad s_Epochs s_Cursor s_Mended =
 (i_within.f k (↑s_Epochs.length : Int) (1 : Int) (4 : Int)).bind fun d0 =>
 cn (!d0)
 (some false)
 ((i_GoodDisk.f k s_Disk_Plate s_Disk_Held s_Disk_Bad).bind fun d1 =>
  cn (!d1)
  (some false)
  (cn (!decide ((↑s_Disk_Plate.length : Int) = IntKind.i64.wrap ((5 : Int) * (↑s_Epochs.length : Int))))
   (some false)
   ((i_within.f k s_Cursor (0 : Int) (IntKind.i64.wrap ((↑s_Epochs.length : Int) - (1 : Int)))).bind fun d2 =>
    cn (!d2)
    (some false)
    ((i_within.f k s_Mended (0 : Int) (10000 : Int)).bind fun d3 =>
     cn (!d3)
     (some false)
     ((b_ContainsFunc_int__i_GoodScrub_1.f k s_Epochs).bind fun d4 =>
      some (!d4)))))) := (opq_eq _).trans (by kernel_rfl)
abbrev b_Clone_string.s : Sig := ⟨57, [], [.val], [.one (.row 9 .str)], [.one (.own 9 .str)], [], []⟩
noncomputable def b_Clone_string.C (k : Nat) : List (Nat × Ctr) := []
noncomputable def b_Clone_string.f (k : Nat) (s : List ByteArray) : Option (List ByteArray) := opq (b_Clone_string.s.run Try.prog (b_Clone_string.C k) k s)
theorem b_Clone_string.ok (k : Nat) : CtrOk Try.prog 57 (b_Clone_string.s.ctr (fun x => b_Clone_string.f k x)) := sig_ok b_Clone_string.s .nil (by kernel_rfl) fun _ => opq_eq _
theorem b_Clone_string.f_eq (k : Nat) (s : List ByteArray) : b_Clone_string.f k s =
 cn (noEl s)
 (both
  (some ([]))
  (gd (appOk ((0 : Nat) + s.length) (Try.prog.bytesOf (9 : Nat)))
   (some ([] ++ s))))
 (gd (appOk ((0 : Nat) + s.length) (Try.prog.bytesOf (9 : Nat)))
  (some ([] ++ s))) := (opq_eq _).trans (by kernel_rfl)
abbrev b_Clone_bool.s : Sig := ⟨112, [], [.val], [.one (.row 4 .bool)], [.one (.own 4 .bool)], [], []⟩
noncomputable def b_Clone_bool.C (k : Nat) : List (Nat × Ctr) := []
noncomputable def b_Clone_bool.f (k : Nat) (s : List Bool) : Option (List Bool) := opq (b_Clone_bool.s.run Try.prog (b_Clone_bool.C k) k s)
theorem b_Clone_bool.ok (k : Nat) : CtrOk Try.prog 112 (b_Clone_bool.s.ctr (fun x => b_Clone_bool.f k x)) := sig_ok b_Clone_bool.s .nil (by kernel_rfl) fun _ => opq_eq _
theorem b_Clone_bool.f_eq (k : Nat) (s : List Bool) : b_Clone_bool.f k s =
 cn (noEl s)
 (both
  (some ([]))
  (gd (appOk ((0 : Nat) + s.length) (Try.prog.bytesOf (4 : Nat)))
   (some ([] ++ s))))
 (gd (appOk ((0 : Nat) + s.length) (Try.prog.bytesOf (4 : Nat)))
  (some ([] ++ s))) := (opq_eq _).trans (by kernel_rfl)
abbrev i_ownDisk.s : Sig := ⟨101, [], [.val], [.agg [.row 9 .str, .row 9 .str, .row 4 .bool]], [.agg [.own 9 .str, .own 9 .str, .own 4 .bool]], [], []⟩
noncomputable def i_ownDisk.C (k : Nat) : List (Nat × Ctr) := [(112, b_Clone_bool.s.ctr (fun x => b_Clone_bool.f k x)), (57, b_Clone_string.s.ctr (fun x => b_Clone_string.f k x))]
noncomputable def i_ownDisk.f (k : Nat) (d_Plate : List ByteArray) (d_Held : List ByteArray) (d_Bad : List Bool) : Option (List ByteArray × List ByteArray × List Bool) := opq (i_ownDisk.s.run Try.prog (i_ownDisk.C k) k (d_Plate, d_Held, d_Bad))
theorem i_ownDisk.ok (k : Nat) : CtrOk Try.prog 101 (i_ownDisk.s.ctr (fun x => i_ownDisk.f k x.1 x.2.1 x.2.2)) := sig_ok i_ownDisk.s (.cons (b_Clone_bool.ok k) (.cons (b_Clone_string.ok k) .nil)) (by kernel_rfl) fun _ => opq_eq _
theorem i_ownDisk.f_eq (k : Nat) (d_Plate : List ByteArray) (d_Held : List ByteArray) (d_Bad : List Bool) : i_ownDisk.f k d_Plate d_Held d_Bad =
 (b_Clone_string.f k d_Plate).bind fun d0 =>
 (b_Clone_string.f k d_Held).bind fun d1 =>
 (b_Clone_bool.f k d_Bad).bind fun d2 =>
 some ((d0, d1, d2)) := (opq_eq _).trans (by kernel_rfl)
abbrev i_heldIn.s : Sig := ⟨108, [], [.val], [.agg [.row 9 .str, .row 9 .str, .row 4 .bool]], [.one (.own 3 (.int .i64))], [], [(0, [(3,true),(8,true),(9,false),(10,false)])]⟩
noncomputable def i_heldIn.C (k : Nat) : List (Nat × Ctr) := []
noncomputable def i_heldIn.f (k : Nat) (d_Plate : List ByteArray) (d_Held : List ByteArray) (d_Bad : List Bool) : Option (List Int) := opq (i_heldIn.s.run Try.prog (i_heldIn.C k) k (d_Plate, d_Held, d_Bad))
theorem i_heldIn.ok (k : Nat) : CtrOk Try.prog 108 (i_heldIn.s.ctr (fun x => i_heldIn.f k x.1 x.2.1 x.2.2)) := sig_ok i_heldIn.s .nil (by kernel_rfl) fun _ => opq_eq _
noncomputable def i_heldIn.l0 (k : Nat) (m : Nat) (t8 : List ByteArray) (t9 : Int) (t10 : Int) (h1 : List Int) : Option (List Int) := i_heldIn.s.head Try.prog (i_heldIn.C k) k 1 0 [] m [(3, AV.ref 1), (8, AV.row 9 Kind.str t8), (9, AV.int IntKind.i64 t9), (10, AV.int IntKind.i64 t10)] [Root.dead, Root.rows 3 (Kind.int IntKind.i64) h1]
theorem i_heldIn.l0_z (k : Nat) (t8 : List ByteArray) (t9 : Int) (t10 : Int) (h1 : List Int) : i_heldIn.l0 k 0 t8 t9 t10 h1 = none := by kernel_rfl
theorem i_heldIn.l0_s (k : Nat) (m : Nat) (t8 : List ByteArray) (t9 : Int) (t10 : Int) (h1 : List Int) : i_heldIn.l0 k (m + 1) t8 t9 t10 h1 =
 cn (decide (t10 < t9))
 (gd (inb t10 t8.length)
  (cn (!decide ((getAt ByteArray.empty t8 t10.toNat).toList = ByteArray.empty.toList))
   (gd (appOk (h1.length + [t10].length) (Try.prog.bytesOf (3 : Nat)))
    (i_heldIn.l0 k m t8 t9 (IntKind.i64.wrap (t10 + (1 : Int))) (h1 ++ [t10])))
   (i_heldIn.l0 k m t8 t9 (IntKind.i64.wrap (t10 + (1 : Int))) h1)))
 (some h1) := by kernel_rfl
theorem i_heldIn.f_eq (k : Nat) (d_Plate : List ByteArray) (d_Held : List ByteArray) (d_Bad : List Bool) : i_heldIn.f k d_Plate d_Held d_Bad =
 i_heldIn.l0 k k d_Held ((↑d_Held.length : Int)) ((0 : Int)) ([]) := (opq_eq _).trans (by kernel_rfl)
abbrev b_Index_int.s : Sig := ⟨115, [], [.val, .val], [.one (.row 3 (.int .i64)), .one (.int .i64)], [.one (.int .i64)], [], [(0, [(0,false),(1,false),(7,false),(8,false)])]⟩
noncomputable def b_Index_int.C (k : Nat) : List (Nat × Ctr) := []
noncomputable def b_Index_int.f (k : Nat) (s : List Int) (v : Int) : Option Int := opq (b_Index_int.s.run Try.prog (b_Index_int.C k) k (s, v))
theorem b_Index_int.ok (k : Nat) : CtrOk Try.prog 115 (b_Index_int.s.ctr (fun x => b_Index_int.f k x.1 x.2)) := sig_ok b_Index_int.s .nil (by kernel_rfl) fun _ => opq_eq _
noncomputable def b_Index_int.l0 (k : Nat) (m : Nat) (s0 : List Int) (v1 : Int) (t7 : Int) (t8 : Int) : Option Int := b_Index_int.s.head Try.prog (b_Index_int.C k) k 1 0 [] m [(0, AV.row 3 (Kind.int IntKind.i64) s0), (1, AV.int IntKind.i64 v1), (7, AV.int IntKind.i64 t7), (8, AV.int IntKind.i64 t8)] [Root.dead]
theorem b_Index_int.l0_z (k : Nat) (s0 : List Int) (v1 : Int) (t7 : Int) (t8 : Int) : b_Index_int.l0 k 0 s0 v1 t7 t8 = none := by kernel_rfl
theorem b_Index_int.l0_s (k : Nat) (m : Nat) (s0 : List Int) (v1 : Int) (t7 : Int) (t8 : Int) : b_Index_int.l0 k (m + 1) s0 v1 t7 t8 =
 cn (decide (t8 < t7))
 (gd (inb t8 s0.length)
  (cn (decide (v1 = getAt (0 : Int) s0 t8.toNat))
   (some t8)
   (b_Index_int.l0 k m s0 v1 t7 (IntKind.i64.wrap (t8 + (1 : Int))))))
 (some ((-1 : Int))) := by kernel_rfl
theorem b_Index_int.f_eq (k : Nat) (s : List Int) (v : Int) : b_Index_int.f k s v =
 b_Index_int.l0 k k s v ((↑s.length : Int)) ((0 : Int)) := (opq_eq _).trans (by kernel_rfl)
abbrev b_Contains_int.s : Sig := ⟨113, [], [.val, .val], [.one (.row 3 (.int .i64)), .one (.int .i64)], [.one .bool], [], []⟩
noncomputable def b_Contains_int.C (k : Nat) : List (Nat × Ctr) := [(115, b_Index_int.s.ctr (fun x => b_Index_int.f k x.1 x.2))]
noncomputable def b_Contains_int.f (k : Nat) (s : List Int) (v : Int) : Option Bool := opq (b_Contains_int.s.run Try.prog (b_Contains_int.C k) k (s, v))
theorem b_Contains_int.ok (k : Nat) : CtrOk Try.prog 113 (b_Contains_int.s.ctr (fun x => b_Contains_int.f k x.1 x.2)) := sig_ok b_Contains_int.s (.cons (b_Index_int.ok k) .nil) (by kernel_rfl) fun _ => opq_eq _
theorem b_Contains_int.f_eq (k : Nat) (s : List Int) (v : Int) : b_Contains_int.f k s v =
 (b_Index_int.f k s v).bind fun d0 =>
 some (decide ((0 : Int) ≤ d0)) := (opq_eq _).trans (by kernel_rfl)
abbrev i_crashed.s : Sig := ⟨107, [], [.val, .val], [.agg [.row 9 .str, .row 9 .str, .row 4 .bool], .one (.row 3 (.int .i64))], [.agg [.own 9 .str, .own 9 .str, .own 4 .bool]], [], [(0, [(1,false),(4,false),(5,false),(11,false),(12,false)])]⟩
noncomputable def i_crashed.C (k : Nat) : List (Nat × Ctr) := [(101, i_ownDisk.s.ctr (fun x => i_ownDisk.f k x.1 x.2.1 x.2.2)), (113, b_Contains_int.s.ctr (fun x => b_Contains_int.f k x.1 x.2))]
noncomputable def i_crashed.f (k : Nat) (d_Plate : List ByteArray) (d_Held : List ByteArray) (d_Bad : List Bool) (kept : List Int) : Option (List ByteArray × List ByteArray × List Bool) := opq (i_crashed.s.run Try.prog (i_crashed.C k) k ((d_Plate, d_Held, d_Bad), kept))
theorem i_crashed.ok (k : Nat) : CtrOk Try.prog 107 (i_crashed.s.ctr (fun x => i_crashed.f k x.1.1 x.1.2.1 x.1.2.2 x.2)) := sig_ok i_crashed.s (.cons (i_ownDisk.ok k) (.cons (b_Contains_int.ok k) .nil)) (by kernel_rfl) fun _ => opq_eq _
noncomputable def i_crashed.l0 (k : Nat) (m : Nat) (kept1 : List Int) (t11 : Int) (t12 : Int) (h2 : List ByteArray) (h3 : List ByteArray) (h4 : List Bool) : Option (List ByteArray × List ByteArray × List Bool) := i_crashed.s.head Try.prog (i_crashed.C k) k 1 0 [] m [(1, AV.row 3 (Kind.int IntKind.i64) kept1), (4, AV.ptr 1 0 0), (5, AV.ptr 5 0 0), (11, AV.int IntKind.i64 t11), (12, AV.int IntKind.i64 t12)] [Root.dead, Root.box 31 [AV.nil 9 Kind.str, AV.nil 9 Kind.str, AV.nil 4 Kind.bool], Root.rows 9 Kind.str h2, Root.rows 9 Kind.str h3, Root.rows 4 Kind.bool h4, Root.box 31 [AV.ref 2, AV.ref 3, AV.ref 4]]
theorem i_crashed.l0_z (k : Nat) (kept1 : List Int) (t11 : Int) (t12 : Int) (h2 : List ByteArray) (h3 : List ByteArray) (h4 : List Bool) : i_crashed.l0 k 0 kept1 t11 t12 h2 h3 h4 = none := by kernel_rfl
theorem i_crashed.l0_s (k : Nat) (m : Nat) (kept1 : List Int) (t11 : Int) (t12 : Int) (h2 : List ByteArray) (h3 : List ByteArray) (h4 : List Bool) : i_crashed.l0 k (m + 1) kept1 t11 t12 h2 h3 h4 =
 cn (decide (t12 < t11))
 ((b_Contains_int.f k kept1 t12).bind fun d1 =>
  cn d1
  (gd (inb t12 h3.length)
   (gd (inb t12 h2.length)
    (gd (inb t12 h3.length)
     (i_crashed.l0 k m kept1 t11 (IntKind.i64.wrap (t12 + (1 : Int))) (h2.set t12.toNat (getAt ByteArray.empty h3 t12.toNat)) (h3.set t12.toNat ByteArray.empty) h4))))
  (gd (inb t12 h3.length)
   (i_crashed.l0 k m kept1 t11 (IntKind.i64.wrap (t12 + (1 : Int))) h2 (h3.set t12.toNat ByteArray.empty) h4)))
 (some ((h2, h3, h4))) := by kernel_rfl
theorem i_crashed.f_eq (k : Nat) (d_Plate : List ByteArray) (d_Held : List ByteArray) (d_Bad : List Bool) (kept : List Int) : i_crashed.f k d_Plate d_Held d_Bad kept =
 (i_ownDisk.f k d_Plate d_Held d_Bad).bind fun d0 =>
 i_crashed.l0 k k kept ((↑d0.snd.fst.length : Int)) ((0 : Int)) d0.fst d0.snd.fst d0.snd.snd := (opq_eq _).trans (by kernel_rfl)
abbrev i_isOnly.s : Sig := ⟨109, [], [.val, .val, .val, .val], [.agg [.int .i64, .int .i64, .str, .row 3 (.int .i64)], .one .bool, .one .bool, .one .bool], [.one .bool], [], []⟩
noncomputable def i_isOnly.C (k : Nat) : List (Nat × Ctr) := []
noncomputable def i_isOnly.f (k : Nat) (x_Kind : Int) (x_At : Int) (x_Text : ByteArray) (x_Kept : List Int) (at_ : Bool) (text : Bool) (kept : Bool) : Option Bool := opq (i_isOnly.s.run Try.prog (i_isOnly.C k) k ((x_Kind, x_At, x_Text, x_Kept), at_, text, kept))
theorem i_isOnly.ok (k : Nat) : CtrOk Try.prog 109 (i_isOnly.s.ctr (fun x => i_isOnly.f k x.1.1 x.1.2.1 x.1.2.2.1 x.1.2.2.2 x.2.1 x.2.2.1 x.2.2.2)) := sig_ok i_isOnly.s .nil (by kernel_rfl) fun _ => opq_eq _
theorem i_isOnly.f_eq (k : Nat) (x_Kind : Int) (x_At : Int) (x_Text : ByteArray) (x_Kept : List Int) (at_ : Bool) (text : Bool) (kept : Bool) : i_isOnly.f k x_Kind x_At x_Text x_Kept at_ text kept =
 cn at_
 (cn text
  (cn kept
   (some true)
   (some (decide ((↑x_Kept.length : Int) = (0 : Int)))))
  (cn (decide (x_Text.toList = ByteArray.empty.toList))
   (cn kept
    (some true)
    (some (decide ((↑x_Kept.length : Int) = (0 : Int)))))
   (some false)))
 (cn (decide (x_At = (0 : Int)))
  (cn text
   (cn kept
    (some true)
    (some (decide ((↑x_Kept.length : Int) = (0 : Int)))))
   (cn (decide (x_Text.toList = ByteArray.empty.toList))
    (cn kept
     (some true)
     (some (decide ((↑x_Kept.length : Int) = (0 : Int)))))
    (some false)))
  (some false)) := (opq_eq _).trans (by kernel_rfl)
abbrev i_isRising.s : Sig := ⟨67, [], [.val, .val], [.one (.row 3 (.int .i64)), .one (.int .i64)], [.one .bool], [], [(0, [(0,false),(1,false),(7,true),(8,false),(9,false)])]⟩
noncomputable def i_isRising.C (k : Nat) : List (Nat × Ctr) := [(46, i_within.s.ctr (fun x => i_within.f k x.1 x.2.1 x.2.2))]
noncomputable def i_isRising.f (k : Nat) (list : List Int) (below : Int) : Option Bool := opq (i_isRising.s.run Try.prog (i_isRising.C k) k (list, below))
theorem i_isRising.ok (k : Nat) : CtrOk Try.prog 67 (i_isRising.s.ctr (fun x => i_isRising.f k x.1 x.2)) := sig_ok i_isRising.s (.cons (i_within.ok k) .nil) (by kernel_rfl) fun _ => opq_eq _
noncomputable def i_isRising.l0 (k : Nat) (m : Nat) (list0 : List Int) (below1 : Int) (t7 : List Int) (t8 : Int) (t9 : Int) : Option Bool := i_isRising.s.head Try.prog (i_isRising.C k) k 1 0 [] m [(0, AV.row 3 (Kind.int IntKind.i64) list0), (1, AV.int IntKind.i64 below1), (7, AV.row 3 (Kind.int IntKind.i64) t7), (8, AV.int IntKind.i64 t8), (9, AV.int IntKind.i64 t9)] [Root.dead]
theorem i_isRising.l0_z (k : Nat) (list0 : List Int) (below1 : Int) (t7 : List Int) (t8 : Int) (t9 : Int) : i_isRising.l0 k 0 list0 below1 t7 t8 t9 = none := by kernel_rfl
theorem i_isRising.l0_s (k : Nat) (m : Nat) (list0 : List Int) (below1 : Int) (t7 : List Int) (t8 : Int) (t9 : Int) : i_isRising.l0 k (m + 1) list0 below1 t7 t8 t9 =
 cn (decide (t9 < t8))
 (gd (inb t9 t7.length)
  ((i_within.f k (getAt (0 : Int) t7 t9.toNat) (0 : Int) (IntKind.i64.wrap (below1 - (1 : Int)))).bind fun d0 =>
   cn (!d0)
   (some false)
   (cn (decide ((0 : Int) < t9))
    (gd (inb (IntKind.i64.wrap (t9 - (1 : Int))) list0.length)
     (cn (decide (getAt (0 : Int) t7 t9.toNat ≤ getAt (0 : Int) list0 (IntKind.i64.wrap (t9 - (1 : Int))).toNat))
      (some false)
      (i_isRising.l0 k m list0 below1 t7 t8 (IntKind.i64.wrap (t9 + (1 : Int))))))
    (i_isRising.l0 k m list0 below1 t7 t8 (IntKind.i64.wrap (t9 + (1 : Int)))))))
 (some true) := by kernel_rfl
theorem i_isRising.f_eq (k : Nat) (list : List Int) (below : Int) : i_isRising.f k list below =
 i_isRising.l0 k k list below list ((↑list.length : Int)) ((0 : Int)) := (opq_eq _).trans (by kernel_rfl)
abbrev i_areHeld_1.s : Sig := ⟨114, [], [.val, .pbox 31], [.one (.int .i64), .agg [.row 9 .str, .row 9 .str, .row 4 .bool]], [.one .bool], [.box 31 [.row 9 .str, .row 9 .str, .row 4 .bool]], []⟩
noncomputable def i_areHeld_1.C (k : Nat) : List (Nat × Ctr) := []
noncomputable def i_areHeld_1.f (k : Nat) (at_ : Int) (free_c0_Plate : List ByteArray) (free_c0_Held : List ByteArray) (free_c0_Bad : List Bool) : Option (Bool × (List ByteArray × List ByteArray × List Bool)) := opq (i_areHeld_1.s.run Try.prog (i_areHeld_1.C k) k (at_, (free_c0_Plate, free_c0_Held, free_c0_Bad)))
theorem i_areHeld_1.ok (k : Nat) : CtrOk Try.prog 114 (i_areHeld_1.s.ctr (fun x => i_areHeld_1.f k x.1 x.2.1 x.2.2.1 x.2.2.2)) := sig_ok i_areHeld_1.s .nil (by kernel_rfl) fun _ => opq_eq _
theorem i_areHeld_1.f_eq (k : Nat) (at_ : Int) (free_c0_Plate : List ByteArray) (free_c0_Held : List ByteArray) (free_c0_Bad : List Bool) : i_areHeld_1.f k at_ free_c0_Plate free_c0_Held free_c0_Bad =
 gd (inb at_ free_c0_Held.length)
 (some ((decide ((getAt ByteArray.empty free_c0_Held at_.toNat).toList = ByteArray.empty.toList), free_c0_Plate, free_c0_Held, free_c0_Bad))) := (opq_eq _).trans (by kernel_rfl)
abbrev b_IndexFunc_int__i_areHeld_1.s : Sig := ⟨88, [.one, .clo 114 1], [.val, .pbox 31], [.one (.row 3 (.int .i64)), .agg [.row 9 .str, .row 9 .str, .row 4 .bool]], [.one (.int .i64)], [.box 31 [.row 9 .str, .row 9 .str, .row 4 .bool]], [(0, [(0,false),(1,false),(7,false),(8,false)])]⟩
noncomputable def b_IndexFunc_int__i_areHeld_1.C (k : Nat) : List (Nat × Ctr) := [(114, i_areHeld_1.s.ctr (fun x => i_areHeld_1.f k x.1 x.2.1 x.2.2.1 x.2.2.2))]
noncomputable def b_IndexFunc_int__i_areHeld_1.f (k : Nat) (s : List Int) (f_c0_Plate : List ByteArray) (f_c0_Held : List ByteArray) (f_c0_Bad : List Bool) : Option (Int × (List ByteArray × List ByteArray × List Bool)) := opq (b_IndexFunc_int__i_areHeld_1.s.run Try.prog (b_IndexFunc_int__i_areHeld_1.C k) k (s, (f_c0_Plate, f_c0_Held, f_c0_Bad)))
theorem b_IndexFunc_int__i_areHeld_1.ok (k : Nat) : CtrOk Try.prog 88 (b_IndexFunc_int__i_areHeld_1.s.ctr (fun x => b_IndexFunc_int__i_areHeld_1.f k x.1 x.2.1 x.2.2.1 x.2.2.2)) := sig_ok b_IndexFunc_int__i_areHeld_1.s (.cons (i_areHeld_1.ok k) .nil) (by kernel_rfl) fun _ => opq_eq _
noncomputable def b_IndexFunc_int__i_areHeld_1.l0 (k : Nat) (m : Nat) (s0 : List Int) (t7 : Int) (t8 : Int) (h1 : List ByteArray) (h1_ : List ByteArray) (h1__ : List Bool) : Option (Int × (List ByteArray × List ByteArray × List Bool)) := b_IndexFunc_int__i_areHeld_1.s.head Try.prog (b_IndexFunc_int__i_areHeld_1.C k) k 2 0 [] m [(0, AV.row 3 (Kind.int IntKind.i64) s0), (1, AV.clo 114 [AV.ptr 1 0 0]), (7, AV.int IntKind.i64 t7), (8, AV.int IntKind.i64 t8)] [Root.dead, Root.box 31 [AV.row 9 Kind.str h1, AV.row 9 Kind.str h1_, AV.row 4 Kind.bool h1__]]
theorem b_IndexFunc_int__i_areHeld_1.l0_z (k : Nat) (s0 : List Int) (t7 : Int) (t8 : Int) (h1 : List ByteArray) (h1_ : List ByteArray) (h1__ : List Bool) : b_IndexFunc_int__i_areHeld_1.l0 k 0 s0 t7 t8 h1 h1_ h1__ = none := by kernel_rfl
theorem b_IndexFunc_int__i_areHeld_1.l0_s (k : Nat) (m : Nat) (s0 : List Int) (t7 : Int) (t8 : Int) (h1 : List ByteArray) (h1_ : List ByteArray) (h1__ : List Bool) : b_IndexFunc_int__i_areHeld_1.l0 k (m + 1) s0 t7 t8 h1 h1_ h1__ =
 cn (decide (t8 < t7))
 (gd (inb t8 s0.length)
  ((i_areHeld_1.f k (getAt (0 : Int) s0 t8.toNat) h1 h1_ h1__).bind fun d0 =>
   cn d0.fst
   (some ((t8, d0.snd.fst, d0.snd.snd.fst, d0.snd.snd.snd)))
   (b_IndexFunc_int__i_areHeld_1.l0 k m s0 t7 (IntKind.i64.wrap (t8 + (1 : Int))) d0.snd.fst d0.snd.snd.fst d0.snd.snd.snd)))
 (some (((-1 : Int), h1, h1_, h1__))) := by kernel_rfl
theorem b_IndexFunc_int__i_areHeld_1.f_eq (k : Nat) (s : List Int) (f_c0_Plate : List ByteArray) (f_c0_Held : List ByteArray) (f_c0_Bad : List Bool) : b_IndexFunc_int__i_areHeld_1.f k s f_c0_Plate f_c0_Held f_c0_Bad =
 b_IndexFunc_int__i_areHeld_1.l0 k k s ((↑s.length : Int)) ((0 : Int)) f_c0_Plate f_c0_Held f_c0_Bad := (opq_eq _).trans (by kernel_rfl)
abbrev b_ContainsFunc_int__i_areHeld_1.s : Sig := ⟨48, [.one, .clo 114 1], [.val, .pbox 31], [.one (.row 3 (.int .i64)), .agg [.row 9 .str, .row 9 .str, .row 4 .bool]], [.one .bool], [.box 31 [.row 9 .str, .row 9 .str, .row 4 .bool]], []⟩
noncomputable def b_ContainsFunc_int__i_areHeld_1.C (k : Nat) : List (Nat × Ctr) := [(88, b_IndexFunc_int__i_areHeld_1.s.ctr (fun x => b_IndexFunc_int__i_areHeld_1.f k x.1 x.2.1 x.2.2.1 x.2.2.2))]
noncomputable def b_ContainsFunc_int__i_areHeld_1.f (k : Nat) (s : List Int) (f_c0_Plate : List ByteArray) (f_c0_Held : List ByteArray) (f_c0_Bad : List Bool) : Option (Bool × (List ByteArray × List ByteArray × List Bool)) := opq (b_ContainsFunc_int__i_areHeld_1.s.run Try.prog (b_ContainsFunc_int__i_areHeld_1.C k) k (s, (f_c0_Plate, f_c0_Held, f_c0_Bad)))
theorem b_ContainsFunc_int__i_areHeld_1.ok (k : Nat) : CtrOk Try.prog 48 (b_ContainsFunc_int__i_areHeld_1.s.ctr (fun x => b_ContainsFunc_int__i_areHeld_1.f k x.1 x.2.1 x.2.2.1 x.2.2.2)) := sig_ok b_ContainsFunc_int__i_areHeld_1.s (.cons (b_IndexFunc_int__i_areHeld_1.ok k) .nil) (by kernel_rfl) fun _ => opq_eq _
theorem b_ContainsFunc_int__i_areHeld_1.f_eq (k : Nat) (s : List Int) (f_c0_Plate : List ByteArray) (f_c0_Held : List ByteArray) (f_c0_Bad : List Bool) : b_ContainsFunc_int__i_areHeld_1.f k s f_c0_Plate f_c0_Held f_c0_Bad =
 (b_IndexFunc_int__i_areHeld_1.f k s f_c0_Plate f_c0_Held f_c0_Bad).bind fun d0 =>
 some ((decide ((0 : Int) ≤ d0.fst), d0.snd.fst, d0.snd.snd.fst, d0.snd.snd.snd)) := (opq_eq _).trans (by kernel_rfl)
abbrev i_areHeld.s : Sig := ⟨110, [], [.val, .val], [.agg [.row 9 .str, .row 9 .str, .row 4 .bool], .one (.row 3 (.int .i64))], [.one .bool], [], []⟩
noncomputable def i_areHeld.C (k : Nat) : List (Nat × Ctr) := [(48, b_ContainsFunc_int__i_areHeld_1.s.ctr (fun x => b_ContainsFunc_int__i_areHeld_1.f k x.1 x.2.1 x.2.2.1 x.2.2.2)), (67, i_isRising.s.ctr (fun x => i_isRising.f k x.1 x.2))]
noncomputable def i_areHeld.f (k : Nat) (d_Plate : List ByteArray) (d_Held : List ByteArray) (d_Bad : List Bool) (kept : List Int) : Option Bool := opq (i_areHeld.s.run Try.prog (i_areHeld.C k) k ((d_Plate, d_Held, d_Bad), kept))
theorem i_areHeld.ok (k : Nat) : CtrOk Try.prog 110 (i_areHeld.s.ctr (fun x => i_areHeld.f k x.1.1 x.1.2.1 x.1.2.2 x.2)) := sig_ok i_areHeld.s (.cons (b_ContainsFunc_int__i_areHeld_1.ok k) (.cons (i_isRising.ok k) .nil)) (by kernel_rfl) fun _ => opq_eq _
theorem i_areHeld.f_eq (k : Nat) (d_Plate : List ByteArray) (d_Held : List ByteArray) (d_Bad : List Bool) (kept : List Int) : i_areHeld.f k d_Plate d_Held d_Bad kept =
 (i_isRising.f k kept (↑d_Plate.length : Int)).bind fun d0 =>
 cn d0
 ((b_ContainsFunc_int__i_areHeld_1.f k kept d_Plate d_Held d_Bad).bind fun d1 =>
  some (!d1.fst))
 (some false) := (opq_eq _).trans (by kernel_rfl)
abbrev i_Disk_has.s : Sig := ⟨111, [], [.val, .val], [.agg [.row 9 .str, .row 9 .str, .row 4 .bool], .one (.int .i64)], [.one .bool], [], []⟩
noncomputable def i_Disk_has.C (k : Nat) : List (Nat × Ctr) := [(46, i_within.s.ctr (fun x => i_within.f k x.1 x.2.1 x.2.2))]
noncomputable def i_Disk_has.f (k : Nat) (d_Plate : List ByteArray) (d_Held : List ByteArray) (d_Bad : List Bool) (at_ : Int) : Option Bool := opq (i_Disk_has.s.run Try.prog (i_Disk_has.C k) k ((d_Plate, d_Held, d_Bad), at_))
theorem i_Disk_has.ok (k : Nat) : CtrOk Try.prog 111 (i_Disk_has.s.ctr (fun x => i_Disk_has.f k x.1.1 x.1.2.1 x.1.2.2 x.2)) := sig_ok i_Disk_has.s (.cons (i_within.ok k) .nil) (by kernel_rfl) fun _ => opq_eq _
theorem i_Disk_has.f_eq (k : Nat) (d_Plate : List ByteArray) (d_Held : List ByteArray) (d_Bad : List Bool) (at_ : Int) : i_Disk_has.f k d_Plate d_Held d_Bad at_ =
 (i_within.f k at_ (0 : Int) (IntKind.i64.wrap ((↑d_Plate.length : Int) - (1 : Int)))).bind fun d0 =>
 some d0 := (opq_eq _).trans (by kernel_rfl)
abbrev i_stepped.s : Sig := ⟨100, [], [.val, .val], [.agg [.row 9 .str, .row 9 .str, .row 4 .bool], .agg [.int .i64, .int .i64, .str, .row 3 (.int .i64)]], [.agg [.own 9 .str, .own 9 .str, .own 4 .bool], .one .bool], [], [(2, [(3,false),(4,false),(6,false),(7,true),(118,false),(119,false)]), (1000014, [(2,false),(3,false),(4,false),(6,false)])]⟩
noncomputable def i_stepped.C (k : Nat) : List (Nat × Ctr) := [(101, i_ownDisk.s.ctr (fun x => i_ownDisk.f k x.1 x.2.1 x.2.2)), (107, i_crashed.s.ctr (fun x => i_crashed.f k x.1.1 x.1.2.1 x.1.2.2 x.2)), (108, i_heldIn.s.ctr (fun x => i_heldIn.f k x.1 x.2.1 x.2.2)), (109, i_isOnly.s.ctr (fun x => i_isOnly.f k x.1.1 x.1.2.1 x.1.2.2.1 x.1.2.2.2 x.2.1 x.2.2.1 x.2.2.2)), (110, i_areHeld.s.ctr (fun x => i_areHeld.f k x.1.1 x.1.2.1 x.1.2.2 x.2)), (111, i_Disk_has.s.ctr (fun x => i_Disk_has.f k x.1.1 x.1.2.1 x.1.2.2 x.2)), (46, i_within.s.ctr (fun x => i_within.f k x.1 x.2.1 x.2.2))]
noncomputable def i_stepped.f (k : Nat) (d_Plate : List ByteArray) (d_Held : List ByteArray) (d_Bad : List Bool) (x_Kind : Int) (x_At : Int) (x_Text : ByteArray) (x_Kept : List Int) : Option ((List ByteArray × List ByteArray × List Bool) × Bool) := opq (i_stepped.s.run Try.prog (i_stepped.C k) k ((d_Plate, d_Held, d_Bad), (x_Kind, x_At, x_Text, x_Kept)))
theorem i_stepped.ok (k : Nat) : CtrOk Try.prog 100 (i_stepped.s.ctr (fun x => i_stepped.f k x.1.1 x.1.2.1 x.1.2.2 x.2.1 x.2.2.1 x.2.2.2.1 x.2.2.2.2)) := sig_ok i_stepped.s (.cons (i_ownDisk.ok k) (.cons (i_crashed.ok k) (.cons (i_heldIn.ok k) (.cons (i_isOnly.ok k) (.cons (i_areHeld.ok k) (.cons (i_Disk_has.ok k) (.cons (i_within.ok k) .nil))))))) (by kernel_rfl) fun _ => opq_eq _
noncomputable def i_stepped.l1000014 (k : Nat) (m : Nat) (h1 : List ByteArray) (h1_ : List ByteArray) (h1__ : List Bool) (h2 : Int) (h2_ : Int) (h2__ : ByteArray) (h2___ : List Int) (h4 : List ByteArray) (h5 : List ByteArray) (h6 : List Bool) : Option ((List ByteArray × List ByteArray × List Bool) × Bool) := i_stepped.s.head Try.prog (i_stepped.C k) k 1 1000014 [] m [(2, AV.ptr 1 0 0), (3, AV.ptr 2 0 0), (4, AV.ptr 3 0 0), (6, AV.ptr 7 0 0)] [Root.dead, Root.box 31 [AV.row 9 Kind.str h1, AV.row 9 Kind.str h1_, AV.row 4 Kind.bool h1__], Root.box 107 [AV.int IntKind.i64 h2, AV.int IntKind.i64 h2_, AV.str h2__, AV.row 3 (Kind.int IntKind.i64) h2___], Root.box 31 [AV.nil 9 Kind.str, AV.nil 9 Kind.str, AV.nil 4 Kind.bool], Root.rows 9 Kind.str h4, Root.rows 9 Kind.str h5, Root.rows 4 Kind.bool h6, Root.box 31 [AV.ref 4, AV.ref 5, AV.ref 6]]
noncomputable def i_stepped.l2 (k : Nat) (m : Nat) (t118 : Int) (t119 : Int) (h1 : Int) (h1_ : Int) (h1__ : ByteArray) (h1___ : List Int) (h3 : List ByteArray) (h4 : List ByteArray) (h5 : List Bool) (h7 : List Int) : Option ((List ByteArray × List ByteArray × List Bool) × Bool) := i_stepped.s.head Try.prog (i_stepped.C k) k 1 2 [] m [(3, AV.ptr 1 0 0), (4, AV.ptr 2 0 0), (6, AV.ptr 6 0 0), (7, AV.ref 7), (118, AV.int IntKind.i64 t118), (119, AV.int IntKind.i64 t119)] [Root.dead, Root.box 107 [AV.int IntKind.i64 h1, AV.int IntKind.i64 h1_, AV.str h1__, AV.row 3 (Kind.int IntKind.i64) h1___], Root.box 31 [AV.nil 9 Kind.str, AV.nil 9 Kind.str, AV.nil 4 Kind.bool], Root.rows 9 Kind.str h3, Root.rows 9 Kind.str h4, Root.rows 4 Kind.bool h5, Root.box 31 [AV.ref 3, AV.ref 4, AV.ref 5], Root.rows 5 (Kind.int IntKind.u8) h7]
theorem i_stepped.l1000014_s (k : Nat) (m : Nat) (h1 : List ByteArray) (h1_ : List ByteArray) (h1__ : List Bool) (h2 : Int) (h2_ : Int) (h2__ : ByteArray) (h2___ : List Int) (h4 : List ByteArray) (h5 : List ByteArray) (h6 : List Bool) : i_stepped.l1000014 k m h1 h1_ h1__ h2 h2_ h2__ h2___ h4 h5 h6 =
 cn (decide (h2 = (1 : Int)))
 (gd (inb h2_ h5.length)
  (gd (inb h2_ h1__.length)
   (cn (!getAt false h1__ h2_.toNat)
    ((i_within.f k (↑h2__.size : Int) (1 : Int) (28 : Int)).bind fun d4 =>
     some (((h4, h5.set h2_.toNat h2__, h6), d4)))
    (some (((h4, h5.set h2_.toNat h2__, h6), false))))))
 (cn (decide (h2 = (4 : Int)))
  (gd (inb h2_ h1_.length)
   (cn (!decide ((getAt ByteArray.empty h1_ h2_.toNat).toList = ByteArray.empty.toList))
    (some ((([], [], []), false)))
    (gd (inb h2_ h1.length)
     ((i_within.f k (↑h2__.size : Int) (1 : Int) (↑(getAt ByteArray.empty h1 h2_.toNat).size : Int)).bind fun d4 =>
      cn (!d4)
      (some ((([], [], []), false)))
      (gd (inb h2_ h1.length)
       (gd (decide ((getAt ByteArray.empty h1 h2_.toNat).size ≤ (70368744177664 : Nat)))
        (i_stepped.l2 k k ((↑h2__.size : Int)) ((0 : Int)) h2 h2_ h2__ h2___ h4 h5 h6 (bytesL (getAt ByteArray.empty h1 h2_.toNat)))))))))
  (cn (decide (h2 = (5 : Int)))
   (gd (inb h2_ h6.length)
    (both
     (dup
      (gd (inb h2_ h5.length)
       (some (((h4, h5.set h2_.toNat ByteArray.empty, h6.set h2_.toNat true), true)))))
     (both
      (dup
       (gd (inb h2_ h5.length)
        (some (((h4, h5.set h2_.toNat ByteArray.empty, h6.set h2_.toNat true), true)))))
      (gd (inb h2_ h5.length)
       (some (((h4, h5.set h2_.toNat ByteArray.empty, h6.set h2_.toNat true), true)))))))
   (gd (inb h2_ h6.length)
    (both
     (dup
      (gd (inb h2_ h4.length)
       (both
        (both
         (both
          (gd (inb h2_ h1__.length)
           (dup
            (some (((h4.set h2_.toNat ByteArray.empty, h5, h6.set h2_.toNat false), getAt false h1__ h2_.toNat)))))
          (gd (inb h2_ h1__.length)
           (some (((h4.set h2_.toNat ByteArray.empty, h5, h6.set h2_.toNat false), getAt false h1__ h2_.toNat)))))
         (gd (inb h2_ h1__.length)
          (some (((h4.set h2_.toNat ByteArray.empty, h5, h6.set h2_.toNat false), getAt false h1__ h2_.toNat)))))
        (both
         (both
          (both
           (gd (inb h2_ h1__.length)
            (dup
             (some (((h4.set h2_.toNat ByteArray.empty, h5, h6.set h2_.toNat false), getAt false h1__ h2_.toNat)))))
           (gd (inb h2_ h1__.length)
            (some (((h4.set h2_.toNat ByteArray.empty, h5, h6.set h2_.toNat false), getAt false h1__ h2_.toNat)))))
          (gd (inb h2_ h1__.length)
           (some (((h4.set h2_.toNat ByteArray.empty, h5, h6.set h2_.toNat false), getAt false h1__ h2_.toNat)))))
         (gd (inb h2_ h1__.length)
          (some (((h4.set h2_.toNat ByteArray.empty, h5, h6.set h2_.toNat false), getAt false h1__ h2_.toNat))))))))
     (both
      (dup
       (gd (inb h2_ h4.length)
        (both
         (both
          (both
           (gd (inb h2_ h1__.length)
            (dup
             (some (((h4.set h2_.toNat ByteArray.empty, h5, h6.set h2_.toNat false), getAt false h1__ h2_.toNat)))))
           (gd (inb h2_ h1__.length)
            (some (((h4.set h2_.toNat ByteArray.empty, h5, h6.set h2_.toNat false), getAt false h1__ h2_.toNat)))))
          (gd (inb h2_ h1__.length)
           (some (((h4.set h2_.toNat ByteArray.empty, h5, h6.set h2_.toNat false), getAt false h1__ h2_.toNat)))))
         (both
          (both
           (both
            (gd (inb h2_ h1__.length)
             (dup
              (some (((h4.set h2_.toNat ByteArray.empty, h5, h6.set h2_.toNat false), getAt false h1__ h2_.toNat)))))
            (gd (inb h2_ h1__.length)
             (some (((h4.set h2_.toNat ByteArray.empty, h5, h6.set h2_.toNat false), getAt false h1__ h2_.toNat)))))
           (gd (inb h2_ h1__.length)
            (some (((h4.set h2_.toNat ByteArray.empty, h5, h6.set h2_.toNat false), getAt false h1__ h2_.toNat)))))
          (gd (inb h2_ h1__.length)
           (some (((h4.set h2_.toNat ByteArray.empty, h5, h6.set h2_.toNat false), getAt false h1__ h2_.toNat))))))))
      (gd (inb h2_ h4.length)
       (both
        (both
         (both
          (gd (inb h2_ h1__.length)
           (dup
            (some (((h4.set h2_.toNat ByteArray.empty, h5, h6.set h2_.toNat false), getAt false h1__ h2_.toNat)))))
          (gd (inb h2_ h1__.length)
           (some (((h4.set h2_.toNat ByteArray.empty, h5, h6.set h2_.toNat false), getAt false h1__ h2_.toNat)))))
         (gd (inb h2_ h1__.length)
          (some (((h4.set h2_.toNat ByteArray.empty, h5, h6.set h2_.toNat false), getAt false h1__ h2_.toNat)))))
        (both
         (both
          (both
           (gd (inb h2_ h1__.length)
            (dup
             (some (((h4.set h2_.toNat ByteArray.empty, h5, h6.set h2_.toNat false), getAt false h1__ h2_.toNat)))))
           (gd (inb h2_ h1__.length)
            (some (((h4.set h2_.toNat ByteArray.empty, h5, h6.set h2_.toNat false), getAt false h1__ h2_.toNat)))))
          (gd (inb h2_ h1__.length)
           (some (((h4.set h2_.toNat ByteArray.empty, h5, h6.set h2_.toNat false), getAt false h1__ h2_.toNat)))))
         (gd (inb h2_ h1__.length)
          (some (((h4.set h2_.toNat ByteArray.empty, h5, h6.set h2_.toNat false), getAt false h1__ h2_.toNat)))))))))))) := by kernel_rfl
theorem i_stepped.l2_z (k : Nat) (t118 : Int) (t119 : Int) (h1 : Int) (h1_ : Int) (h1__ : ByteArray) (h1___ : List Int) (h3 : List ByteArray) (h4 : List ByteArray) (h5 : List Bool) (h7 : List Int) : i_stepped.l2 k 0 t118 t119 h1 h1_ h1__ h1___ h3 h4 h5 h7 = none := by kernel_rfl
theorem i_stepped.l2_s (k : Nat) (m : Nat) (t118 : Int) (t119 : Int) (h1 : Int) (h1_ : Int) (h1__ : ByteArray) (h1___ : List Int) (h3 : List ByteArray) (h4 : List ByteArray) (h5 : List Bool) (h7 : List Int) : i_stepped.l2 k (m + 1) t118 t119 h1 h1_ h1__ h1___ h3 h4 h5 h7 =
 cn (decide (t119 < t118))
 (gd (inb t119 h7.length)
  (gd (inb t119 h1__.size)
   (gd (inb t119 h7.length)
    (i_stepped.l2 k m t118 (IntKind.i64.wrap (t119 + (1 : Int))) h1 h1_ h1__ h1___ h3 h4 h5 (h7.set t119.toNat (IntKind.u8.wrap (↑(BitVec.ofInt (8 : Nat) (getAt (0 : Int) h7 t119.toNat) ^^^ BitVec.ofInt (8 : Nat) (↑(h1__.data.getD t119.toNat (0 : UInt8)).toNat : Int)).toNat : Int)))))))
 (gd (inb h1_ h3.length)
  (some (((h3.set h1_.toNat (strOfNums h7), h4, h5), true)))) := by kernel_rfl
theorem i_stepped.f_eq (k : Nat) (d_Plate : List ByteArray) (d_Held : List ByteArray) (d_Bad : List Bool) (x_Kind : Int) (x_At : Int) (x_Text : ByteArray) (x_Kept : List Int) : i_stepped.f k d_Plate d_Held d_Bad x_Kind x_At x_Text x_Kept =
 (i_ownDisk.f k d_Plate d_Held d_Bad).bind fun d0 =>
 cn (decide (x_Kind = (2 : Int)))
 ((i_heldIn.f k d_Plate d_Held d_Bad).bind fun d1 =>
  (i_crashed.f k d_Plate d_Held d_Bad d1).bind fun d2 =>
  (i_isOnly.f k x_Kind x_At x_Text x_Kept false false false).bind fun d3 =>
  some (((d2.fst, d2.snd.fst, d2.snd.snd), d3)))
 (cn (decide (x_Kind = (3 : Int)))
  ((i_crashed.f k d_Plate d_Held d_Bad x_Kept).bind fun d1 =>
   (i_isOnly.f k x_Kind x_At x_Text x_Kept false false true).bind fun d2 =>
   cn d2
   ((i_areHeld.f k d_Plate d_Held d_Bad x_Kept).bind fun d3 =>
    some (((d1.fst, d1.snd.fst, d1.snd.snd), d3)))
   (some (((d1.fst, d1.snd.fst, d1.snd.snd), false))))
  (cn (decide (x_Kind = (1 : Int)))
   (cn (decide (x_Kind = (1 : Int)))
    ((i_Disk_has.f k d_Plate d_Held d_Bad x_At).bind fun d1 =>
     cn (!d1)
     (some ((([], [], []), false)))
     (cn (decide (x_Kind = (1 : Int)))
      ((i_isOnly.f k x_Kind x_At x_Text x_Kept true true false).bind fun d2 =>
       cn (!d2)
       (some ((([], [], []), false)))
       (i_stepped.l1000014 k 0 d_Plate d_Held d_Bad x_Kind x_At x_Text x_Kept d0.fst d0.snd.fst d0.snd.snd))
      ((i_isOnly.f k x_Kind x_At x_Text x_Kept true (decide (x_Kind = (4 : Int))) false).bind fun d2 =>
       cn (!d2)
       (some ((([], [], []), false)))
       (i_stepped.l1000014 k 0 d_Plate d_Held d_Bad x_Kind x_At x_Text x_Kept d0.fst d0.snd.fst d0.snd.snd))))
    (some ((([], [], []), false))))
   (cn (decide (x_Kind = (4 : Int)))
    (cn (decide (x_Kind = (4 : Int)))
     ((i_Disk_has.f k d_Plate d_Held d_Bad x_At).bind fun d1 =>
      cn (!d1)
      (some ((([], [], []), false)))
      (cn (decide (x_Kind = (1 : Int)))
       ((i_isOnly.f k x_Kind x_At x_Text x_Kept true true false).bind fun d2 =>
        cn (!d2)
        (some ((([], [], []), false)))
        (i_stepped.l1000014 k 0 d_Plate d_Held d_Bad x_Kind x_At x_Text x_Kept d0.fst d0.snd.fst d0.snd.snd))
       ((i_isOnly.f k x_Kind x_At x_Text x_Kept true (decide (x_Kind = (4 : Int))) false).bind fun d2 =>
        cn (!d2)
        (some ((([], [], []), false)))
        (i_stepped.l1000014 k 0 d_Plate d_Held d_Bad x_Kind x_At x_Text x_Kept d0.fst d0.snd.fst d0.snd.snd))))
     (some ((([], [], []), false))))
    (cn (decide (x_Kind = (5 : Int)))
     (cn (decide (x_Kind = (5 : Int)))
      ((i_Disk_has.f k d_Plate d_Held d_Bad x_At).bind fun d1 =>
       cn (!d1)
       (some ((([], [], []), false)))
       (cn (decide (x_Kind = (1 : Int)))
        ((i_isOnly.f k x_Kind x_At x_Text x_Kept true true false).bind fun d2 =>
         cn (!d2)
         (some ((([], [], []), false)))
         (i_stepped.l1000014 k 0 d_Plate d_Held d_Bad x_Kind x_At x_Text x_Kept d0.fst d0.snd.fst d0.snd.snd))
        ((i_isOnly.f k x_Kind x_At x_Text x_Kept true (decide (x_Kind = (4 : Int))) false).bind fun d2 =>
         cn (!d2)
         (some ((([], [], []), false)))
         (i_stepped.l1000014 k 0 d_Plate d_Held d_Bad x_Kind x_At x_Text x_Kept d0.fst d0.snd.fst d0.snd.snd))))
      (some ((([], [], []), false))))
     (cn (decide (x_Kind = (6 : Int)))
      ((i_Disk_has.f k d_Plate d_Held d_Bad x_At).bind fun d1 =>
       cn (!d1)
       (some ((([], [], []), false)))
       (cn (decide (x_Kind = (1 : Int)))
        ((i_isOnly.f k x_Kind x_At x_Text x_Kept true true false).bind fun d2 =>
         cn (!d2)
         (some ((([], [], []), false)))
         (i_stepped.l1000014 k 0 d_Plate d_Held d_Bad x_Kind x_At x_Text x_Kept d0.fst d0.snd.fst d0.snd.snd))
        ((i_isOnly.f k x_Kind x_At x_Text x_Kept true (decide (x_Kind = (4 : Int))) false).bind fun d2 =>
         cn (!d2)
         (some ((([], [], []), false)))
         (i_stepped.l1000014 k 0 d_Plate d_Held d_Bad x_Kind x_At x_Text x_Kept d0.fst d0.snd.fst d0.snd.snd))))
      (some ((([], [], []), false)))))))) := (opq_eq _).trans (by kernel_rfl)
abbrev i_StepDisk.s : Sig := ⟨80, [], [.val, .val], [.agg [.row 9 .str, .row 9 .str, .row 4 .bool], .agg [.int .i64, .int .i64, .str, .row 3 (.int .i64)]], [.agg [.own 9 .str, .own 9 .str, .own 4 .bool], .one .bool], [], []⟩
noncomputable def i_StepDisk.C (k : Nat) : List (Nat × Ctr) := [(100, i_stepped.s.ctr (fun x => i_stepped.f k x.1.1 x.1.2.1 x.1.2.2 x.2.1 x.2.2.1 x.2.2.2.1 x.2.2.2.2)), (47, i_GoodDisk.s.ctr (fun x => i_GoodDisk.f k x.1 x.2.1 x.2.2))]
noncomputable def i_StepDisk.f (k : Nat) (d_Plate : List ByteArray) (d_Held : List ByteArray) (d_Bad : List Bool) (x_Kind : Int) (x_At : Int) (x_Text : ByteArray) (x_Kept : List Int) : Option ((List ByteArray × List ByteArray × List Bool) × Bool) := opq (i_StepDisk.s.run Try.prog (i_StepDisk.C k) k ((d_Plate, d_Held, d_Bad), (x_Kind, x_At, x_Text, x_Kept)))
theorem i_StepDisk.ok (k : Nat) : CtrOk Try.prog 80 (i_StepDisk.s.ctr (fun x => i_StepDisk.f k x.1.1 x.1.2.1 x.1.2.2 x.2.1 x.2.2.1 x.2.2.2.1 x.2.2.2.2)) := sig_ok i_StepDisk.s (.cons (i_stepped.ok k) (.cons (i_GoodDisk.ok k) .nil)) (by kernel_rfl) fun _ => opq_eq _
theorem i_StepDisk.f_eq (k : Nat) (d_Plate : List ByteArray) (d_Held : List ByteArray) (d_Bad : List Bool) (x_Kind : Int) (x_At : Int) (x_Text : ByteArray) (x_Kept : List Int) : i_StepDisk.f k d_Plate d_Held d_Bad x_Kind x_At x_Text x_Kept =
 (i_GoodDisk.f k d_Plate d_Held d_Bad).bind fun d0 =>
 cn (!d0)
 (some ((([], [], []), false)))
 ((i_stepped.f k d_Plate d_Held d_Bad x_Kind x_At x_Text x_Kept).bind fun d1 =>
  cn (!d1.snd)
  (some ((([], [], []), false)))
  (some (((d1.fst.fst, d1.fst.snd.fst, d1.fst.snd.snd), true)))) := (opq_eq _).trans (by kernel_rfl)
abbrev b_Clone_int.s : Sig := ⟨102, [], [.val], [.one (.row 3 (.int .i64))], [.one (.own 3 (.int .i64))], [], []⟩
noncomputable def b_Clone_int.C (k : Nat) : List (Nat × Ctr) := []
noncomputable def b_Clone_int.f (k : Nat) (s : List Int) : Option (List Int) := opq (b_Clone_int.s.run Try.prog (b_Clone_int.C k) k s)
theorem b_Clone_int.ok (k : Nat) : CtrOk Try.prog 102 (b_Clone_int.s.ctr (fun x => b_Clone_int.f k x)) := sig_ok b_Clone_int.s .nil (by kernel_rfl) fun _ => opq_eq _
theorem b_Clone_int.f_eq (k : Nat) (s : List Int) : b_Clone_int.f k s =
 cn (noEl s)
 (both
  (some ([]))
  (gd (appOk ((0 : Nat) + s.length) (Try.prog.bytesOf (3 : Nat)))
   (some ([] ++ s))))
 (gd (appOk ((0 : Nat) + s.length) (Try.prog.bytesOf (3 : Nat)))
  (some ([] ++ s))) := (opq_eq _).trans (by kernel_rfl)
abbrev i_ownScrub.s : Sig := ⟨81, [], [.val], [.agg [.row 9 .str, .row 9 .str, .row 4 .bool, .row 3 (.int .i64), .int .i64, .int .i64]], [.agg [.own 9 .str, .own 9 .str, .own 4 .bool, .own 3 (.int .i64), .int .i64, .int .i64]], [], []⟩
noncomputable def i_ownScrub.C (k : Nat) : List (Nat × Ctr) := [(101, i_ownDisk.s.ctr (fun x => i_ownDisk.f k x.1 x.2.1 x.2.2)), (102, b_Clone_int.s.ctr (fun x => b_Clone_int.f k x))]
noncomputable def i_ownScrub.f (k : Nat) (s_Disk_Plate : List ByteArray) (s_Disk_Held : List ByteArray) (s_Disk_Bad : List Bool) (s_Epochs : List Int) (s_Cursor : Int) (s_Mended : Int) : Option (List ByteArray × List ByteArray × List Bool × List Int × Int × Int) := opq (i_ownScrub.s.run Try.prog (i_ownScrub.C k) k (s_Disk_Plate, s_Disk_Held, s_Disk_Bad, s_Epochs, s_Cursor, s_Mended))
theorem i_ownScrub.ok (k : Nat) : CtrOk Try.prog 81 (i_ownScrub.s.ctr (fun x => i_ownScrub.f k x.1 x.2.1 x.2.2.1 x.2.2.2.1 x.2.2.2.2.1 x.2.2.2.2.2)) := sig_ok i_ownScrub.s (.cons (i_ownDisk.ok k) (.cons (b_Clone_int.ok k) .nil)) (by kernel_rfl) fun _ => opq_eq _
theorem i_ownScrub.f_eq (k : Nat) (s_Disk_Plate : List ByteArray) (s_Disk_Held : List ByteArray) (s_Disk_Bad : List Bool) (s_Epochs : List Int) (s_Cursor : Int) (s_Mended : Int) : i_ownScrub.f k s_Disk_Plate s_Disk_Held s_Disk_Bad s_Epochs s_Cursor s_Mended =
 (i_ownDisk.f k s_Disk_Plate s_Disk_Held s_Disk_Bad).bind fun d0 =>
 (b_Clone_int.f k s_Epochs).bind fun d1 =>
 some ((d0.fst, d0.snd.fst, d0.snd.snd, d1, s_Cursor, s_Mended)) := (opq_eq _).trans (by kernel_rfl)
abbrev i_RotIn.s : Sig := ⟨37, [], [.val, .val, .val], [.agg [.row 9 .str, .row 9 .str, .row 4 .bool, .row 3 (.int .i64), .int .i64, .int .i64], .one (.int .i64), .one .str], [.agg [.own 9 .str, .own 9 .str, .own 4 .bool, .own 3 (.int .i64), .int .i64, .int .i64], .one .bool], [], []⟩
noncomputable def i_RotIn.C (k : Nat) : List (Nat × Ctr) := [(12, i_GoodScrub.s.ctr (fun x => i_GoodScrub.f k x.1 x.2.1 x.2.2.1 x.2.2.2.1 x.2.2.2.2.1 x.2.2.2.2.2)), (46, i_within.s.ctr (fun x => i_within.f k x.1 x.2.1 x.2.2)), (80, i_StepDisk.s.ctr (fun x => i_StepDisk.f k x.1.1 x.1.2.1 x.1.2.2 x.2.1 x.2.2.1 x.2.2.2.1 x.2.2.2.2)), (81, i_ownScrub.s.ctr (fun x => i_ownScrub.f k x.1 x.2.1 x.2.2.1 x.2.2.2.1 x.2.2.2.2.1 x.2.2.2.2.2))]
noncomputable def i_RotIn.f (k : Nat) (s_Disk_Plate : List ByteArray) (s_Disk_Held : List ByteArray) (s_Disk_Bad : List Bool) (s_Epochs : List Int) (s_Cursor : Int) (s_Mended : Int) (at_ : Int) (mask : ByteArray) : Option ((List ByteArray × List ByteArray × List Bool × List Int × Int × Int) × Bool) := opq (i_RotIn.s.run Try.prog (i_RotIn.C k) k ((s_Disk_Plate, s_Disk_Held, s_Disk_Bad, s_Epochs, s_Cursor, s_Mended), at_, mask))
theorem i_RotIn.ok (k : Nat) : CtrOk Try.prog 37 (i_RotIn.s.ctr (fun x => i_RotIn.f k x.1.1 x.1.2.1 x.1.2.2.1 x.1.2.2.2.1 x.1.2.2.2.2.1 x.1.2.2.2.2.2 x.2.1 x.2.2)) := sig_ok i_RotIn.s (.cons (i_GoodScrub.ok k) (.cons (i_within.ok k) (.cons (i_StepDisk.ok k) (.cons (i_ownScrub.ok k) .nil)))) (by kernel_rfl) fun _ => opq_eq _
theorem i_RotIn.f_eq (k : Nat) (s_Disk_Plate : List ByteArray) (s_Disk_Held : List ByteArray) (s_Disk_Bad : List Bool) (s_Epochs : List Int) (s_Cursor : Int) (s_Mended : Int) (at_ : Int) (mask : ByteArray) : i_RotIn.f k s_Disk_Plate s_Disk_Held s_Disk_Bad s_Epochs s_Cursor s_Mended at_ mask =
 (i_GoodScrub.f k s_Disk_Plate s_Disk_Held s_Disk_Bad s_Epochs s_Cursor s_Mended).bind fun d0 =>
 cn (!d0)
 (some ((([], [], [], [], (0 : Int), (0 : Int)), false)))
 ((i_within.f k (↑mask.size : Int) (1 : Int) (4 : Int)).bind fun d1 =>
  cn (!d1)
  (some ((([], [], [], [], (0 : Int), (0 : Int)), false)))
  ((i_StepDisk.f k s_Disk_Plate s_Disk_Held s_Disk_Bad (4 : Int) at_ mask []).bind fun d2 =>
   cn (!d2.snd)
   (some ((([], [], [], [], (0 : Int), (0 : Int)), false)))
   ((i_ownScrub.f k s_Disk_Plate s_Disk_Held s_Disk_Bad s_Epochs s_Cursor s_Mended).bind fun d3 =>
    some (((d2.fst.fst, d2.fst.snd.fst, d2.fst.snd.snd, d3.snd.snd.snd.fst, d3.snd.snd.snd.snd.fst, d3.snd.snd.snd.snd.snd), true))))) := (opq_eq _).trans (by kernel_rfl)
abbrev w_eqStringS.s : Sig := ⟨59, [], [.val, .val], [.one (.row 9 .str), .one (.row 9 .str)], [.one .bool], [], [(0, [(0,false),(1,false),(5,false)])]⟩
noncomputable def w_eqStringS.C (k : Nat) : List (Nat × Ctr) := []
noncomputable def w_eqStringS.f (k : Nat) (a : List ByteArray) (b : List ByteArray) : Option Bool := opq (w_eqStringS.s.run Try.prog (w_eqStringS.C k) k (a, b))
theorem w_eqStringS.ok (k : Nat) : CtrOk Try.prog 59 (w_eqStringS.s.ctr (fun x => w_eqStringS.f k x.1 x.2)) := sig_ok w_eqStringS.s .nil (by kernel_rfl) fun _ => opq_eq _
noncomputable def w_eqStringS.l0 (k : Nat) (m : Nat) (a0 : List ByteArray) (b1 : List ByteArray) (i5 : Int) : Option Bool := w_eqStringS.s.head Try.prog (w_eqStringS.C k) k 1 0 [] m [(0, AV.row 9 Kind.str a0), (1, AV.row 9 Kind.str b1), (5, AV.int IntKind.i64 i5)] [Root.dead]
theorem w_eqStringS.l0_z (k : Nat) (a0 : List ByteArray) (b1 : List ByteArray) (i5 : Int) : w_eqStringS.l0 k 0 a0 b1 i5 = none := by kernel_rfl
theorem w_eqStringS.l0_s (k : Nat) (m : Nat) (a0 : List ByteArray) (b1 : List ByteArray) (i5 : Int) : w_eqStringS.l0 k (m + 1) a0 b1 i5 =
 cn (decide (i5 < (↑a0.length : Int)))
 (gd (inb i5 a0.length)
  (gd (inb i5 b1.length)
   (cn (!decide ((getAt ByteArray.empty a0 i5.toNat).toList = (getAt ByteArray.empty b1 i5.toNat).toList))
    (some false)
    (w_eqStringS.l0 k m a0 b1 (IntKind.i64.wrap (i5 + (1 : Int)))))))
 (some true) := by kernel_rfl
theorem w_eqStringS.f_eq (k : Nat) (a : List ByteArray) (b : List ByteArray) : w_eqStringS.f k a b =
 cn (!decide ((↑a.length : Int) = (↑b.length : Int)))
 (some false)
 (w_eqStringS.l0 k k a b ((0 : Int))) := (opq_eq _).trans (by kernel_rfl)
abbrev w_eqBoolS.s : Sig := ⟨89, [], [.val, .val], [.one (.row 4 .bool), .one (.row 4 .bool)], [.one .bool], [], [(0, [(0,false),(1,false),(5,false)])]⟩
noncomputable def w_eqBoolS.C (k : Nat) : List (Nat × Ctr) := []
noncomputable def w_eqBoolS.f (k : Nat) (a : List Bool) (b : List Bool) : Option Bool := opq (w_eqBoolS.s.run Try.prog (w_eqBoolS.C k) k (a, b))
theorem w_eqBoolS.ok (k : Nat) : CtrOk Try.prog 89 (w_eqBoolS.s.ctr (fun x => w_eqBoolS.f k x.1 x.2)) := sig_ok w_eqBoolS.s .nil (by kernel_rfl) fun _ => opq_eq _
noncomputable def w_eqBoolS.l0 (k : Nat) (m : Nat) (a0 : List Bool) (b1 : List Bool) (i5 : Int) : Option Bool := w_eqBoolS.s.head Try.prog (w_eqBoolS.C k) k 1 0 [] m [(0, AV.row 4 Kind.bool a0), (1, AV.row 4 Kind.bool b1), (5, AV.int IntKind.i64 i5)] [Root.dead]
theorem w_eqBoolS.l0_z (k : Nat) (a0 : List Bool) (b1 : List Bool) (i5 : Int) : w_eqBoolS.l0 k 0 a0 b1 i5 = none := by kernel_rfl
theorem w_eqBoolS.l0_s (k : Nat) (m : Nat) (a0 : List Bool) (b1 : List Bool) (i5 : Int) : w_eqBoolS.l0 k (m + 1) a0 b1 i5 =
 cn (decide (i5 < (↑a0.length : Int)))
 (gd (inb i5 a0.length)
  (gd (inb i5 b1.length)
   (cn (!getAt false a0 i5.toNat == getAt false b1 i5.toNat)
    (some false)
    (w_eqBoolS.l0 k m a0 b1 (IntKind.i64.wrap (i5 + (1 : Int)))))))
 (some true) := by kernel_rfl
theorem w_eqBoolS.f_eq (k : Nat) (a : List Bool) (b : List Bool) : w_eqBoolS.f k a b =
 cn (!decide ((↑a.length : Int) = (↑b.length : Int)))
 (some false)
 (w_eqBoolS.l0 k k a b ((0 : Int))) := (opq_eq _).trans (by kernel_rfl)
abbrev w_eqDisk.s : Sig := ⟨50, [], [.val, .val], [.agg [.row 9 .str, .row 9 .str, .row 4 .bool], .agg [.row 9 .str, .row 9 .str, .row 4 .bool]], [.one .bool], [], []⟩
noncomputable def w_eqDisk.C (k : Nat) : List (Nat × Ctr) := [(59, w_eqStringS.s.ctr (fun x => w_eqStringS.f k x.1 x.2)), (89, w_eqBoolS.s.ctr (fun x => w_eqBoolS.f k x.1 x.2))]
noncomputable def w_eqDisk.f (k : Nat) (a_Plate : List ByteArray) (a_Held : List ByteArray) (a_Bad : List Bool) (b_Plate : List ByteArray) (b_Held : List ByteArray) (b_Bad : List Bool) : Option Bool := opq (w_eqDisk.s.run Try.prog (w_eqDisk.C k) k ((a_Plate, a_Held, a_Bad), (b_Plate, b_Held, b_Bad)))
theorem w_eqDisk.ok (k : Nat) : CtrOk Try.prog 50 (w_eqDisk.s.ctr (fun x => w_eqDisk.f k x.1.1 x.1.2.1 x.1.2.2 x.2.1 x.2.2.1 x.2.2.2)) := sig_ok w_eqDisk.s (.cons (w_eqStringS.ok k) (.cons (w_eqBoolS.ok k) .nil)) (by kernel_rfl) fun _ => opq_eq _
theorem w_eqDisk.f_eq (k : Nat) (a_Plate : List ByteArray) (a_Held : List ByteArray) (a_Bad : List Bool) (b_Plate : List ByteArray) (b_Held : List ByteArray) (b_Bad : List Bool) : w_eqDisk.f k a_Plate a_Held a_Bad b_Plate b_Held b_Bad =
 (w_eqStringS.f k a_Plate b_Plate).bind fun d0 =>
 cn (!d0)
 (some false)
 ((w_eqStringS.f k a_Held b_Held).bind fun d1 =>
  cn (!d1)
  (some false)
  ((w_eqBoolS.f k a_Bad b_Bad).bind fun d2 =>
   cn (!d2)
   (some false)
   (some true))) := (opq_eq _).trans (by kernel_rfl)
abbrev w_eqIntS.s : Sig := ⟨32, [], [.val, .val], [.one (.row 3 (.int .i64)), .one (.row 3 (.int .i64))], [.one .bool], [], [(0, [(0,false),(1,false),(5,false)])]⟩
noncomputable def w_eqIntS.C (k : Nat) : List (Nat × Ctr) := []
noncomputable def w_eqIntS.f (k : Nat) (a : List Int) (b : List Int) : Option Bool := opq (w_eqIntS.s.run Try.prog (w_eqIntS.C k) k (a, b))
theorem w_eqIntS.ok (k : Nat) : CtrOk Try.prog 32 (w_eqIntS.s.ctr (fun x => w_eqIntS.f k x.1 x.2)) := sig_ok w_eqIntS.s .nil (by kernel_rfl) fun _ => opq_eq _
noncomputable def w_eqIntS.l0 (k : Nat) (m : Nat) (a0 : List Int) (b1 : List Int) (i5 : Int) : Option Bool := w_eqIntS.s.head Try.prog (w_eqIntS.C k) k 1 0 [] m [(0, AV.row 3 (Kind.int IntKind.i64) a0), (1, AV.row 3 (Kind.int IntKind.i64) b1), (5, AV.int IntKind.i64 i5)] [Root.dead]
theorem w_eqIntS.l0_z (k : Nat) (a0 : List Int) (b1 : List Int) (i5 : Int) : w_eqIntS.l0 k 0 a0 b1 i5 = none := by kernel_rfl
theorem w_eqIntS.l0_s (k : Nat) (m : Nat) (a0 : List Int) (b1 : List Int) (i5 : Int) : w_eqIntS.l0 k (m + 1) a0 b1 i5 =
 cn (decide (i5 < (↑a0.length : Int)))
 (gd (inb i5 a0.length)
  (gd (inb i5 b1.length)
   (cn (!decide (getAt (0 : Int) a0 i5.toNat = getAt (0 : Int) b1 i5.toNat))
    (some false)
    (w_eqIntS.l0 k m a0 b1 (IntKind.i64.wrap (i5 + (1 : Int)))))))
 (some true) := by kernel_rfl
theorem w_eqIntS.f_eq (k : Nat) (a : List Int) (b : List Int) : w_eqIntS.f k a b =
 cn (!decide ((↑a.length : Int) = (↑b.length : Int)))
 (some false)
 (w_eqIntS.l0 k k a b ((0 : Int))) := (opq_eq _).trans (by kernel_rfl)
abbrev w_eqScrub.s : Sig := ⟨13, [], [.val, .val], [.agg [.row 9 .str, .row 9 .str, .row 4 .bool, .row 3 (.int .i64), .int .i64, .int .i64], .agg [.row 9 .str, .row 9 .str, .row 4 .bool, .row 3 (.int .i64), .int .i64, .int .i64]], [.one .bool], [], []⟩
noncomputable def w_eqScrub.C (k : Nat) : List (Nat × Ctr) := [(32, w_eqIntS.s.ctr (fun x => w_eqIntS.f k x.1 x.2)), (50, w_eqDisk.s.ctr (fun x => w_eqDisk.f k x.1.1 x.1.2.1 x.1.2.2 x.2.1 x.2.2.1 x.2.2.2))]
noncomputable def w_eqScrub.f (k : Nat) (a_Disk_Plate : List ByteArray) (a_Disk_Held : List ByteArray) (a_Disk_Bad : List Bool) (a_Epochs : List Int) (a_Cursor : Int) (a_Mended : Int) (b_Disk_Plate : List ByteArray) (b_Disk_Held : List ByteArray) (b_Disk_Bad : List Bool) (b_Epochs : List Int) (b_Cursor : Int) (b_Mended : Int) : Option Bool := opq (w_eqScrub.s.run Try.prog (w_eqScrub.C k) k ((a_Disk_Plate, a_Disk_Held, a_Disk_Bad, a_Epochs, a_Cursor, a_Mended), (b_Disk_Plate, b_Disk_Held, b_Disk_Bad, b_Epochs, b_Cursor, b_Mended)))
theorem w_eqScrub.ok (k : Nat) : CtrOk Try.prog 13 (w_eqScrub.s.ctr (fun x => w_eqScrub.f k x.1.1 x.1.2.1 x.1.2.2.1 x.1.2.2.2.1 x.1.2.2.2.2.1 x.1.2.2.2.2.2 x.2.1 x.2.2.1 x.2.2.2.1 x.2.2.2.2.1 x.2.2.2.2.2.1 x.2.2.2.2.2.2)) := sig_ok w_eqScrub.s (.cons (w_eqIntS.ok k) (.cons (w_eqDisk.ok k) .nil)) (by kernel_rfl) fun _ => opq_eq _
theorem w_eqScrub.f_eq (k : Nat) (a_Disk_Plate : List ByteArray) (a_Disk_Held : List ByteArray) (a_Disk_Bad : List Bool) (a_Epochs : List Int) (a_Cursor : Int) (a_Mended : Int) (b_Disk_Plate : List ByteArray) (b_Disk_Held : List ByteArray) (b_Disk_Bad : List Bool) (b_Epochs : List Int) (b_Cursor : Int) (b_Mended : Int) : w_eqScrub.f k a_Disk_Plate a_Disk_Held a_Disk_Bad a_Epochs a_Cursor a_Mended b_Disk_Plate b_Disk_Held b_Disk_Bad b_Epochs b_Cursor b_Mended =
 (w_eqDisk.f k a_Disk_Plate a_Disk_Held a_Disk_Bad b_Disk_Plate b_Disk_Held b_Disk_Bad).bind fun d0 =>
 cn (!d0)
 (some false)
 ((w_eqIntS.f k a_Epochs b_Epochs).bind fun d1 =>
  cn (!d1)
  (some false)
  (cn (!decide (a_Cursor = b_Cursor))
   (some false)
   (cn (!decide (a_Mended = b_Mended))
    (some false)
    (some true)))) := (opq_eq _).trans (by kernel_rfl)
abbrev w_markText.s : Sig := ⟨61, [], [.val], [.one (.int .i64)], [.one .str], [], [(0, [(0,false),(3,false)])]⟩
noncomputable def w_markText.C (k : Nat) : List (Nat × Ctr) := []
noncomputable def w_markText.f (k : Nat) (k_ : Int) : Option ByteArray := opq (w_markText.s.run Try.prog (w_markText.C k) k k_)
theorem w_markText.ok (k : Nat) : CtrOk Try.prog 61 (w_markText.s.ctr (fun x => w_markText.f k x)) := sig_ok w_markText.s .nil (by kernel_rfl) fun _ => opq_eq _
noncomputable def w_markText.l0 (k : Nat) (m : Nat) (k0 : Int) (out3 : ByteArray) : Option ByteArray := w_markText.s.head Try.prog (w_markText.C k) k 1 0 [] m [(0, AV.int IntKind.i64 k0), (3, AV.str out3)] [Root.dead]
theorem w_markText.l0_z (k : Nat) (k0 : Int) (out3 : ByteArray) : w_markText.l0 k 0 k0 out3 = none := by kernel_rfl
theorem w_markText.l0_s (k : Nat) (m : Nat) (k0 : Int) (out3 : ByteArray) : w_markText.l0 k (m + 1) k0 out3 =
 cn (decide ((0 : Int) < k0))
 (gd (decide ((strOfNums [IntKind.u8.wrap (IntKind.i64.wrap ((48 : Int) + k0.tmod (10 : Int)))]).size + out3.size ≤ (140737488355328 : Nat)))
  (w_markText.l0 k m (IntKind.i64.wrap (k0.tdiv (10 : Int))) (strOfNums [IntKind.u8.wrap (IntKind.i64.wrap ((48 : Int) + k0.tmod (10 : Int)))] ++ out3)))
 (gd (decide ((1 : Nat) + out3.size ≤ (140737488355328 : Nat)))
  (some ({ data := #[(109 : UInt8)] : ByteArray } ++ out3))) := by kernel_rfl
theorem w_markText.f_eq (k : Nat) (k_ : Int) : w_markText.f k k_ =
 cn (decide (k_ ≤ (0 : Int)))
 (some ({ data := #[(109 : UInt8), (48 : UInt8)] : ByteArray }))
 (w_markText.l0 k k k_ ByteArray.empty) := (opq_eq _).trans (by kernel_rfl)
abbrev w_markStringS.s : Sig := ⟨62, [], [.chg, .val], [.one (.row 9 .str), .one (.int .i64)], [.one (.int .i64)], [.rows 9 .str], [(0, [(0,false),(1,false),(5,false)])]⟩
noncomputable def w_markStringS.C (k : Nat) : List (Nat × Ctr) := [(61, w_markText.s.ctr (fun x => w_markText.f k x))]
noncomputable def w_markStringS.f (k : Nat) (a : List ByteArray) (k_ : Int) : Option (Int × List ByteArray) := opq (w_markStringS.s.run Try.prog (w_markStringS.C k) k (a, k_))
theorem w_markStringS.ok (k : Nat) : CtrOk Try.prog 62 (w_markStringS.s.ctr (fun x => w_markStringS.f k x.1 x.2)) := sig_ok w_markStringS.s (.cons (w_markText.ok k) .nil) (by kernel_rfl) fun _ => opq_eq _
noncomputable def w_markStringS.l0 (k : Nat) (m : Nat) (k1 : Int) (i5 : Int) (h1 : List ByteArray) : Option (Int × List ByteArray) := w_markStringS.s.head Try.prog (w_markStringS.C k) k 2 0 [] m [(0, AV.ref 1), (1, AV.int IntKind.i64 k1), (5, AV.int IntKind.i64 i5)] [Root.dead, Root.rows 9 Kind.str h1]
theorem w_markStringS.l0_z (k : Nat) (k1 : Int) (i5 : Int) (h1 : List ByteArray) : w_markStringS.l0 k 0 k1 i5 h1 = none := by kernel_rfl
theorem w_markStringS.l0_s (k : Nat) (m : Nat) (k1 : Int) (i5 : Int) (h1 : List ByteArray) : w_markStringS.l0 k (m + 1) k1 i5 h1 =
 cn (decide (i5 < (↑h1.length : Int)))
 ((w_markText.f k k1).bind fun d0 =>
  gd (inb i5 h1.length)
  (w_markStringS.l0 k m (IntKind.i64.wrap (k1 + (1 : Int))) (IntKind.i64.wrap (i5 + (1 : Int))) (h1.set i5.toNat d0)))
 (some ((k1, h1))) := by kernel_rfl
theorem w_markStringS.f_eq (k : Nat) (a : List ByteArray) (k_ : Int) : w_markStringS.f k a k_ =
 w_markStringS.l0 k k k_ ((0 : Int)) a := (opq_eq _).trans (by kernel_rfl)
abbrev w_markBoolS.s : Sig := ⟨103, [], [.chg, .val], [.one (.row 4 .bool), .one (.int .i64)], [.one (.int .i64)], [.rows 4 .bool], [(0, [(0,false),(1,false),(5,false)])]⟩
noncomputable def w_markBoolS.C (k : Nat) : List (Nat × Ctr) := []
noncomputable def w_markBoolS.f (k : Nat) (a : List Bool) (k_ : Int) : Option (Int × List Bool) := opq (w_markBoolS.s.run Try.prog (w_markBoolS.C k) k (a, k_))
theorem w_markBoolS.ok (k : Nat) : CtrOk Try.prog 103 (w_markBoolS.s.ctr (fun x => w_markBoolS.f k x.1 x.2)) := sig_ok w_markBoolS.s .nil (by kernel_rfl) fun _ => opq_eq _
noncomputable def w_markBoolS.l0 (k : Nat) (m : Nat) (k1 : Int) (i5 : Int) (h1 : List Bool) : Option (Int × List Bool) := w_markBoolS.s.head Try.prog (w_markBoolS.C k) k 2 0 [] m [(0, AV.ref 1), (1, AV.int IntKind.i64 k1), (5, AV.int IntKind.i64 i5)] [Root.dead, Root.rows 4 Kind.bool h1]
theorem w_markBoolS.l0_z (k : Nat) (k1 : Int) (i5 : Int) (h1 : List Bool) : w_markBoolS.l0 k 0 k1 i5 h1 = none := by kernel_rfl
theorem w_markBoolS.l0_s (k : Nat) (m : Nat) (k1 : Int) (i5 : Int) (h1 : List Bool) : w_markBoolS.l0 k (m + 1) k1 i5 h1 =
 cn (decide (i5 < (↑h1.length : Int)))
 (gd (inb i5 h1.length)
  (w_markBoolS.l0 k m (IntKind.i64.wrap (k1 + (1 : Int))) (IntKind.i64.wrap (i5 + (1 : Int))) (h1.set i5.toNat (decide (k1.tmod (3 : Int) = (0 : Int))))))
 (some ((k1, h1))) := by kernel_rfl
theorem w_markBoolS.f_eq (k : Nat) (a : List Bool) (k_ : Int) : w_markBoolS.f k a k_ =
 w_markBoolS.l0 k k k_ ((0 : Int)) a := (opq_eq _).trans (by kernel_rfl)
abbrev w_markDisk.s : Sig := ⟨82, [.agg 3, .one], [.chg, .chg, .chg, .val], [.one (.row 9 .str), .one (.row 9 .str), .one (.row 4 .bool), .one (.int .i64)], [.one (.int .i64)], [.rows 9 .str, .rows 9 .str, .rows 4 .bool], []⟩
noncomputable def w_markDisk.C (k : Nat) : List (Nat × Ctr) := [(103, w_markBoolS.s.ctr (fun x => w_markBoolS.f k x.1 x.2)), (62, w_markStringS.s.ctr (fun x => w_markStringS.f k x.1 x.2))]
noncomputable def w_markDisk.f (k : Nat) (a_Plate : List ByteArray) (a_Held : List ByteArray) (a_Bad : List Bool) (k_ : Int) : Option (Int × List ByteArray × List ByteArray × List Bool) := opq (w_markDisk.s.run Try.prog (w_markDisk.C k) k (a_Plate, a_Held, a_Bad, k_))
theorem w_markDisk.ok (k : Nat) : CtrOk Try.prog 82 (w_markDisk.s.ctr (fun x => w_markDisk.f k x.1 x.2.1 x.2.2.1 x.2.2.2)) := sig_ok w_markDisk.s (.cons (w_markBoolS.ok k) (.cons (w_markStringS.ok k) .nil)) (by kernel_rfl) fun _ => opq_eq _
theorem w_markDisk.f_eq (k : Nat) (a_Plate : List ByteArray) (a_Held : List ByteArray) (a_Bad : List Bool) (k_ : Int) : w_markDisk.f k a_Plate a_Held a_Bad k_ =
 (w_markStringS.f k a_Plate k_).bind fun d0 =>
 (w_markStringS.f k a_Held d0.fst).bind fun d1 =>
 (w_markBoolS.f k a_Bad d1.fst).bind fun d2 =>
 some ((d2.fst, d0.snd, d1.snd, d2.snd)) := (opq_eq _).trans (by kernel_rfl)
abbrev w_markIntS.s : Sig := ⟨34, [], [.chg, .val], [.one (.row 3 (.int .i64)), .one (.int .i64)], [.one (.int .i64)], [.rows 3 (.int .i64)], [(0, [(0,false),(1,false),(5,false)])]⟩
noncomputable def w_markIntS.C (k : Nat) : List (Nat × Ctr) := []
noncomputable def w_markIntS.f (k : Nat) (a : List Int) (k_ : Int) : Option (Int × List Int) := opq (w_markIntS.s.run Try.prog (w_markIntS.C k) k (a, k_))
theorem w_markIntS.ok (k : Nat) : CtrOk Try.prog 34 (w_markIntS.s.ctr (fun x => w_markIntS.f k x.1 x.2)) := sig_ok w_markIntS.s .nil (by kernel_rfl) fun _ => opq_eq _
noncomputable def w_markIntS.l0 (k : Nat) (m : Nat) (k1 : Int) (i5 : Int) (h1 : List Int) : Option (Int × List Int) := w_markIntS.s.head Try.prog (w_markIntS.C k) k 2 0 [] m [(0, AV.ref 1), (1, AV.int IntKind.i64 k1), (5, AV.int IntKind.i64 i5)] [Root.dead, Root.rows 3 (Kind.int IntKind.i64) h1]
theorem w_markIntS.l0_z (k : Nat) (k1 : Int) (i5 : Int) (h1 : List Int) : w_markIntS.l0 k 0 k1 i5 h1 = none := by kernel_rfl
theorem w_markIntS.l0_s (k : Nat) (m : Nat) (k1 : Int) (i5 : Int) (h1 : List Int) : w_markIntS.l0 k (m + 1) k1 i5 h1 =
 cn (decide (i5 < (↑h1.length : Int)))
 (gd (inb i5 h1.length)
  (w_markIntS.l0 k m (IntKind.i64.wrap (k1 + (1 : Int))) (IntKind.i64.wrap (i5 + (1 : Int))) (h1.set i5.toNat k1)))
 (some ((k1, h1))) := by kernel_rfl
theorem w_markIntS.f_eq (k : Nat) (a : List Int) (k_ : Int) : w_markIntS.f k a k_ =
 w_markIntS.l0 k k k_ ((0 : Int)) a := (opq_eq _).trans (by kernel_rfl)
abbrev w_markScrub.s : Sig := ⟨38, [.agg 6, .one], [.chg, .chg, .chg, .chg, .val, .val, .val], [.one (.row 9 .str), .one (.row 9 .str), .one (.row 4 .bool), .one (.row 3 (.int .i64)), .one (.int .i64), .one (.int .i64), .one (.int .i64)], [.one (.int .i64)], [.rows 9 .str, .rows 9 .str, .rows 4 .bool, .rows 3 (.int .i64)], []⟩
noncomputable def w_markScrub.C (k : Nat) : List (Nat × Ctr) := [(34, w_markIntS.s.ctr (fun x => w_markIntS.f k x.1 x.2)), (82, w_markDisk.s.ctr (fun x => w_markDisk.f k x.1 x.2.1 x.2.2.1 x.2.2.2))]
noncomputable def w_markScrub.f (k : Nat) (a_Disk_Plate : List ByteArray) (a_Disk_Held : List ByteArray) (a_Disk_Bad : List Bool) (a_Epochs : List Int) (a_Cursor : Int) (a_Mended : Int) (k_ : Int) : Option (Int × List ByteArray × List ByteArray × List Bool × List Int) := opq (w_markScrub.s.run Try.prog (w_markScrub.C k) k (a_Disk_Plate, a_Disk_Held, a_Disk_Bad, a_Epochs, a_Cursor, a_Mended, k_))
theorem w_markScrub.ok (k : Nat) : CtrOk Try.prog 38 (w_markScrub.s.ctr (fun x => w_markScrub.f k x.1 x.2.1 x.2.2.1 x.2.2.2.1 x.2.2.2.2.1 x.2.2.2.2.2.1 x.2.2.2.2.2.2)) := sig_ok w_markScrub.s (.cons (w_markIntS.ok k) (.cons (w_markDisk.ok k) .nil)) (by kernel_rfl) fun _ => opq_eq _
theorem w_markScrub.f_eq (k : Nat) (a_Disk_Plate : List ByteArray) (a_Disk_Held : List ByteArray) (a_Disk_Bad : List Bool) (a_Epochs : List Int) (a_Cursor : Int) (a_Mended : Int) (k_ : Int) : w_markScrub.f k a_Disk_Plate a_Disk_Held a_Disk_Bad a_Epochs a_Cursor a_Mended k_ =
 (w_markDisk.f k a_Disk_Plate a_Disk_Held a_Disk_Bad k_).bind fun d0 =>
 (w_markIntS.f k a_Epochs d0.fst).bind fun d1 =>
 some ((d1.fst, d0.snd.fst, d0.snd.snd.fst, d0.snd.snd.snd, d1.snd)) := (opq_eq _).trans (by kernel_rfl)
abbrev w_heldStringS.s : Sig := ⟨63, [], [.val, .val], [.one (.row 9 .str), .one (.int .i64)], [.one (.int .i64)], [], [(0, [(0,false),(1,false),(5,false)])]⟩
noncomputable def w_heldStringS.C (k : Nat) : List (Nat × Ctr) := [(61, w_markText.s.ctr (fun x => w_markText.f k x))]
noncomputable def w_heldStringS.f (k : Nat) (a : List ByteArray) (k_ : Int) : Option Int := opq (w_heldStringS.s.run Try.prog (w_heldStringS.C k) k (a, k_))
theorem w_heldStringS.ok (k : Nat) : CtrOk Try.prog 63 (w_heldStringS.s.ctr (fun x => w_heldStringS.f k x.1 x.2)) := sig_ok w_heldStringS.s (.cons (w_markText.ok k) .nil) (by kernel_rfl) fun _ => opq_eq _
noncomputable def w_heldStringS.l0 (k : Nat) (m : Nat) (a0 : List ByteArray) (k1 : Int) (i5 : Int) : Option Int := w_heldStringS.s.head Try.prog (w_heldStringS.C k) k 1 0 [] m [(0, AV.row 9 Kind.str a0), (1, AV.int IntKind.i64 k1), (5, AV.int IntKind.i64 i5)] [Root.dead]
theorem w_heldStringS.l0_z (k : Nat) (a0 : List ByteArray) (k1 : Int) (i5 : Int) : w_heldStringS.l0 k 0 a0 k1 i5 = none := by kernel_rfl
theorem w_heldStringS.l0_s (k : Nat) (m : Nat) (a0 : List ByteArray) (k1 : Int) (i5 : Int) : w_heldStringS.l0 k (m + 1) a0 k1 i5 =
 cn (decide (i5 < (↑a0.length : Int)))
 (gd (inb i5 a0.length)
  ((w_markText.f k k1).bind fun d0 =>
   cn (!decide ((getAt ByteArray.empty a0 i5.toNat).toList = ByteArray.toList d0))
   (some ((-1 : Int)))
   (w_heldStringS.l0 k m a0 (IntKind.i64.wrap (k1 + (1 : Int))) (IntKind.i64.wrap (i5 + (1 : Int))))))
 (some k1) := by kernel_rfl
theorem w_heldStringS.f_eq (k : Nat) (a : List ByteArray) (k_ : Int) : w_heldStringS.f k a k_ =
 w_heldStringS.l0 k k a k_ ((0 : Int)) := (opq_eq _).trans (by kernel_rfl)
abbrev w_heldBoolS.s : Sig := ⟨104, [], [.val, .val], [.one (.row 4 .bool), .one (.int .i64)], [.one (.int .i64)], [], [(0, [(0,false),(1,false),(5,false)])]⟩
noncomputable def w_heldBoolS.C (k : Nat) : List (Nat × Ctr) := []
noncomputable def w_heldBoolS.f (k : Nat) (a : List Bool) (k_ : Int) : Option Int := opq (w_heldBoolS.s.run Try.prog (w_heldBoolS.C k) k (a, k_))
theorem w_heldBoolS.ok (k : Nat) : CtrOk Try.prog 104 (w_heldBoolS.s.ctr (fun x => w_heldBoolS.f k x.1 x.2)) := sig_ok w_heldBoolS.s .nil (by kernel_rfl) fun _ => opq_eq _
noncomputable def w_heldBoolS.l0 (k : Nat) (m : Nat) (a0 : List Bool) (k1 : Int) (i5 : Int) : Option Int := w_heldBoolS.s.head Try.prog (w_heldBoolS.C k) k 1 0 [] m [(0, AV.row 4 Kind.bool a0), (1, AV.int IntKind.i64 k1), (5, AV.int IntKind.i64 i5)] [Root.dead]
theorem w_heldBoolS.l0_z (k : Nat) (a0 : List Bool) (k1 : Int) (i5 : Int) : w_heldBoolS.l0 k 0 a0 k1 i5 = none := by kernel_rfl
theorem w_heldBoolS.l0_s (k : Nat) (m : Nat) (a0 : List Bool) (k1 : Int) (i5 : Int) : w_heldBoolS.l0 k (m + 1) a0 k1 i5 =
 cn (decide (i5 < (↑a0.length : Int)))
 (gd (inb i5 a0.length)
  (cn (!getAt false a0 i5.toNat == decide (k1.tmod (3 : Int) = (0 : Int)))
   (some ((-1 : Int)))
   (w_heldBoolS.l0 k m a0 (IntKind.i64.wrap (k1 + (1 : Int))) (IntKind.i64.wrap (i5 + (1 : Int))))))
 (some k1) := by kernel_rfl
theorem w_heldBoolS.f_eq (k : Nat) (a : List Bool) (k_ : Int) : w_heldBoolS.f k a k_ =
 w_heldBoolS.l0 k k a k_ ((0 : Int)) := (opq_eq _).trans (by kernel_rfl)
abbrev w_heldDisk.s : Sig := ⟨83, [], [.val, .val], [.agg [.row 9 .str, .row 9 .str, .row 4 .bool], .one (.int .i64)], [.one (.int .i64)], [], []⟩
noncomputable def w_heldDisk.C (k : Nat) : List (Nat × Ctr) := [(104, w_heldBoolS.s.ctr (fun x => w_heldBoolS.f k x.1 x.2)), (63, w_heldStringS.s.ctr (fun x => w_heldStringS.f k x.1 x.2))]
noncomputable def w_heldDisk.f (k : Nat) (a_Plate : List ByteArray) (a_Held : List ByteArray) (a_Bad : List Bool) (k_ : Int) : Option Int := opq (w_heldDisk.s.run Try.prog (w_heldDisk.C k) k ((a_Plate, a_Held, a_Bad), k_))
theorem w_heldDisk.ok (k : Nat) : CtrOk Try.prog 83 (w_heldDisk.s.ctr (fun x => w_heldDisk.f k x.1.1 x.1.2.1 x.1.2.2 x.2)) := sig_ok w_heldDisk.s (.cons (w_heldBoolS.ok k) (.cons (w_heldStringS.ok k) .nil)) (by kernel_rfl) fun _ => opq_eq _
theorem w_heldDisk.f_eq (k : Nat) (a_Plate : List ByteArray) (a_Held : List ByteArray) (a_Bad : List Bool) (k_ : Int) : w_heldDisk.f k a_Plate a_Held a_Bad k_ =
 (w_heldStringS.f k a_Plate k_).bind fun d0 =>
 cn (decide (d0 < (0 : Int)))
 (some ((-1 : Int)))
 ((w_heldStringS.f k a_Held d0).bind fun d1 =>
  cn (decide (d1 < (0 : Int)))
  (some ((-1 : Int)))
  ((w_heldBoolS.f k a_Bad d1).bind fun d2 =>
   cn (decide (d2 < (0 : Int)))
   (some ((-1 : Int)))
   (some d2))) := (opq_eq _).trans (by kernel_rfl)
abbrev w_heldIntS.s : Sig := ⟨35, [], [.val, .val], [.one (.row 3 (.int .i64)), .one (.int .i64)], [.one (.int .i64)], [], [(0, [(0,false),(1,false),(5,false)])]⟩
noncomputable def w_heldIntS.C (k : Nat) : List (Nat × Ctr) := []
noncomputable def w_heldIntS.f (k : Nat) (a : List Int) (k_ : Int) : Option Int := opq (w_heldIntS.s.run Try.prog (w_heldIntS.C k) k (a, k_))
theorem w_heldIntS.ok (k : Nat) : CtrOk Try.prog 35 (w_heldIntS.s.ctr (fun x => w_heldIntS.f k x.1 x.2)) := sig_ok w_heldIntS.s .nil (by kernel_rfl) fun _ => opq_eq _
noncomputable def w_heldIntS.l0 (k : Nat) (m : Nat) (a0 : List Int) (k1 : Int) (i5 : Int) : Option Int := w_heldIntS.s.head Try.prog (w_heldIntS.C k) k 1 0 [] m [(0, AV.row 3 (Kind.int IntKind.i64) a0), (1, AV.int IntKind.i64 k1), (5, AV.int IntKind.i64 i5)] [Root.dead]
theorem w_heldIntS.l0_z (k : Nat) (a0 : List Int) (k1 : Int) (i5 : Int) : w_heldIntS.l0 k 0 a0 k1 i5 = none := by kernel_rfl
theorem w_heldIntS.l0_s (k : Nat) (m : Nat) (a0 : List Int) (k1 : Int) (i5 : Int) : w_heldIntS.l0 k (m + 1) a0 k1 i5 =
 cn (decide (i5 < (↑a0.length : Int)))
 (gd (inb i5 a0.length)
  (cn (!decide (getAt (0 : Int) a0 i5.toNat = k1))
   (some ((-1 : Int)))
   (w_heldIntS.l0 k m a0 (IntKind.i64.wrap (k1 + (1 : Int))) (IntKind.i64.wrap (i5 + (1 : Int))))))
 (some k1) := by kernel_rfl
theorem w_heldIntS.f_eq (k : Nat) (a : List Int) (k_ : Int) : w_heldIntS.f k a k_ =
 w_heldIntS.l0 k k a k_ ((0 : Int)) := (opq_eq _).trans (by kernel_rfl)
abbrev w_heldScrub.s : Sig := ⟨39, [], [.val, .val], [.agg [.row 9 .str, .row 9 .str, .row 4 .bool, .row 3 (.int .i64), .int .i64, .int .i64], .one (.int .i64)], [.one (.int .i64)], [], []⟩
noncomputable def w_heldScrub.C (k : Nat) : List (Nat × Ctr) := [(35, w_heldIntS.s.ctr (fun x => w_heldIntS.f k x.1 x.2)), (83, w_heldDisk.s.ctr (fun x => w_heldDisk.f k x.1.1 x.1.2.1 x.1.2.2 x.2))]
noncomputable def w_heldScrub.f (k : Nat) (a_Disk_Plate : List ByteArray) (a_Disk_Held : List ByteArray) (a_Disk_Bad : List Bool) (a_Epochs : List Int) (a_Cursor : Int) (a_Mended : Int) (k_ : Int) : Option Int := opq (w_heldScrub.s.run Try.prog (w_heldScrub.C k) k ((a_Disk_Plate, a_Disk_Held, a_Disk_Bad, a_Epochs, a_Cursor, a_Mended), k_))
theorem w_heldScrub.ok (k : Nat) : CtrOk Try.prog 39 (w_heldScrub.s.ctr (fun x => w_heldScrub.f k x.1.1 x.1.2.1 x.1.2.2.1 x.1.2.2.2.1 x.1.2.2.2.2.1 x.1.2.2.2.2.2 x.2)) := sig_ok w_heldScrub.s (.cons (w_heldIntS.ok k) (.cons (w_heldDisk.ok k) .nil)) (by kernel_rfl) fun _ => opq_eq _
theorem w_heldScrub.f_eq (k : Nat) (a_Disk_Plate : List ByteArray) (a_Disk_Held : List ByteArray) (a_Disk_Bad : List Bool) (a_Epochs : List Int) (a_Cursor : Int) (a_Mended : Int) (k_ : Int) : w_heldScrub.f k a_Disk_Plate a_Disk_Held a_Disk_Bad a_Epochs a_Cursor a_Mended k_ =
 (w_heldDisk.f k a_Disk_Plate a_Disk_Held a_Disk_Bad k_).bind fun d0 =>
 cn (decide (d0 < (0 : Int)))
 (some ((-1 : Int)))
 ((w_heldIntS.f k a_Epochs d0).bind fun d1 =>
  cn (decide (d1 < (0 : Int)))
  (some ((-1 : Int)))
  (some d1)) := (opq_eq _).trans (by kernel_rfl)
abbrev w_FnExactRotIn.s : Sig := ⟨8, [], [.val, .val, .val], [.agg [.row 9 .str, .row 9 .str, .row 4 .bool, .row 3 (.int .i64), .int .i64, .int .i64], .one (.int .i64), .one .str], [.one .bool], [], []⟩
noncomputable def w_FnExactRotIn.C (k : Nat) : List (Nat × Ctr) := [(11, w_toScrub.s.ctr (fun x => w_toScrub.f k x.1 x.2.1 x.2.2.1 x.2.2.2.1 x.2.2.2.2.1 x.2.2.2.2.2)), (13, w_eqScrub.s.ctr (fun x => w_eqScrub.f k x.1.1 x.1.2.1 x.1.2.2.1 x.1.2.2.2.1 x.1.2.2.2.2.1 x.1.2.2.2.2.2 x.2.1 x.2.2.1 x.2.2.2.1 x.2.2.2.2.1 x.2.2.2.2.2.1 x.2.2.2.2.2.2)), (36, s_RotIn.s.ctr (fun x => s_RotIn.f k x.1.1 x.1.2.1 x.1.2.2.1 x.1.2.2.2.1 x.1.2.2.2.2.1 x.1.2.2.2.2.2 x.2.1 x.2.2)), (37, i_RotIn.s.ctr (fun x => i_RotIn.f k x.1.1 x.1.2.1 x.1.2.2.1 x.1.2.2.2.1 x.1.2.2.2.2.1 x.1.2.2.2.2.2 x.2.1 x.2.2)), (38, w_markScrub.s.ctr (fun x => w_markScrub.f k x.1 x.2.1 x.2.2.1 x.2.2.2.1 x.2.2.2.2.1 x.2.2.2.2.2.1 x.2.2.2.2.2.2)), (39, w_heldScrub.s.ctr (fun x => w_heldScrub.f k x.1.1 x.1.2.1 x.1.2.2.1 x.1.2.2.2.1 x.1.2.2.2.2.1 x.1.2.2.2.2.2 x.2)), (9, w_szScrub.s.ctr (fun x => w_szScrub.f k x.1.1 x.1.2.1 x.1.2.2.1 x.1.2.2.2.1 x.1.2.2.2.2.1 x.1.2.2.2.2.2 x.2))]
noncomputable def w_FnExactRotIn.f (k : Nat) (aS_Disk_Plate : List ByteArray) (aS_Disk_Held : List ByteArray) (aS_Disk_Bad : List Bool) (aS_Epochs : List Int) (aS_Cursor : Int) (aS_Mended : Int) (aAt : Int) (aMask : ByteArray) : Option Bool := opq (w_FnExactRotIn.s.run Try.prog (w_FnExactRotIn.C k) k ((aS_Disk_Plate, aS_Disk_Held, aS_Disk_Bad, aS_Epochs, aS_Cursor, aS_Mended), aAt, aMask))
theorem w_FnExactRotIn.ok (k : Nat) : CtrOk Try.prog 8 (w_FnExactRotIn.s.ctr (fun x => w_FnExactRotIn.f k x.1.1 x.1.2.1 x.1.2.2.1 x.1.2.2.2.1 x.1.2.2.2.2.1 x.1.2.2.2.2.2 x.2.1 x.2.2)) := sig_ok w_FnExactRotIn.s (.cons (w_toScrub.ok k) (.cons (w_eqScrub.ok k) (.cons (s_RotIn.ok k) (.cons (i_RotIn.ok k) (.cons (w_markScrub.ok k) (.cons (w_heldScrub.ok k) (.cons (w_szScrub.ok k) .nil))))))) (by kernel_rfl) fun _ => opq_eq _
theorem w_FnExactRotIn.f_eq (k : Nat) (aS_Disk_Plate : List ByteArray) (aS_Disk_Held : List ByteArray) (aS_Disk_Bad : List Bool) (aS_Epochs : List Int) (aS_Cursor : Int) (aS_Mended : Int) (aAt : Int) (aMask : ByteArray) : w_FnExactRotIn.f k aS_Disk_Plate aS_Disk_Held aS_Disk_Bad aS_Epochs aS_Cursor aS_Mended aAt aMask =
 cn (decide ((1048576 : Int) < (↑aMask.size : Int)))
 (some true)
 ((w_szScrub.f k aS_Disk_Plate aS_Disk_Held aS_Disk_Bad aS_Epochs aS_Cursor aS_Mended (1048576 : Int)).bind fun d0 =>
  cn (decide (d0 < (0 : Int)))
  (some true)
  ((w_toScrub.f k aS_Disk_Plate aS_Disk_Held aS_Disk_Bad aS_Epochs aS_Cursor aS_Mended).bind fun d1 =>
   (s_RotIn.f k d1.fst d1.snd.fst d1.snd.snd.fst d1.snd.snd.snd.fst d1.snd.snd.snd.snd.fst d1.snd.snd.snd.snd.snd aAt aMask).bind fun d2 =>
   (w_toScrub.f k aS_Disk_Plate aS_Disk_Held aS_Disk_Bad aS_Epochs aS_Cursor aS_Mended).bind fun d3 =>
   (i_RotIn.f k d3.fst d3.snd.fst d3.snd.snd.fst d3.snd.snd.snd.fst d3.snd.snd.snd.snd.fst d3.snd.snd.snd.snd.snd aAt aMask).bind fun d4 =>
   (w_eqScrub.f k d4.fst.fst d4.fst.snd.fst d4.fst.snd.snd.fst d4.fst.snd.snd.snd.fst d4.fst.snd.snd.snd.snd.fst d4.fst.snd.snd.snd.snd.snd d2.fst.fst d2.fst.snd.fst d2.fst.snd.snd.fst d2.fst.snd.snd.snd.fst d2.fst.snd.snd.snd.snd.fst d2.fst.snd.snd.snd.snd.snd).bind fun d5 =>
   cn (!d5)
   (some false)
   (cn (!d4.snd == d2.snd)
    (some false)
    ((w_toScrub.f k aS_Disk_Plate aS_Disk_Held aS_Disk_Bad aS_Epochs aS_Cursor aS_Mended).bind fun d6 =>
     (w_eqScrub.f k d3.fst d3.snd.fst d3.snd.snd.fst d3.snd.snd.snd.fst d3.snd.snd.snd.snd.fst d3.snd.snd.snd.snd.snd d6.fst d6.snd.fst d6.snd.snd.fst d6.snd.snd.snd.fst d6.snd.snd.snd.snd.fst d6.snd.snd.snd.snd.snd).bind fun d7 =>
     cn (!d7)
     (some false)
     ((w_markScrub.f k d3.fst d3.snd.fst d3.snd.snd.fst d3.snd.snd.snd.fst d3.snd.snd.snd.snd.fst d3.snd.snd.snd.snd.snd (1 : Int)).bind fun d8 =>
      cn (decide (d8.fst < (0 : Int)))
      (some false)
      ((w_eqScrub.f k d4.fst.fst d4.fst.snd.fst d4.fst.snd.snd.fst d4.fst.snd.snd.snd.fst d4.fst.snd.snd.snd.snd.fst d4.fst.snd.snd.snd.snd.snd d2.fst.fst d2.fst.snd.fst d2.fst.snd.snd.fst d2.fst.snd.snd.snd.fst d2.fst.snd.snd.snd.snd.fst d2.fst.snd.snd.snd.snd.snd).bind fun d9 =>
       cn (!d9)
       (some false)
       (cn (!d4.snd == d2.snd)
        (some false)
        ((w_markScrub.f k d4.fst.fst d4.fst.snd.fst d4.fst.snd.snd.fst d4.fst.snd.snd.snd.fst d4.fst.snd.snd.snd.snd.fst d4.fst.snd.snd.snd.snd.snd (1 : Int)).bind fun d10 =>
         (w_heldScrub.f k d10.snd.fst d10.snd.snd.fst d10.snd.snd.snd.fst d10.snd.snd.snd.snd d4.fst.snd.snd.snd.snd.fst d4.fst.snd.snd.snd.snd.snd (1 : Int)).bind fun d11 =>
         cn (decide (d11 < (0 : Int)))
         (some false)
         (cn (!decide (d11 = d10.fst))
          (some false)
          ((w_toScrub.f k aS_Disk_Plate aS_Disk_Held aS_Disk_Bad aS_Epochs aS_Cursor aS_Mended).bind fun d12 =>
           (i_RotIn.f k d12.fst d12.snd.fst d12.snd.snd.fst d12.snd.snd.snd.fst d12.snd.snd.snd.snd.fst d12.snd.snd.snd.snd.snd aAt aMask).bind fun d13 =>
           (w_eqScrub.f k d13.fst.fst d13.fst.snd.fst d13.fst.snd.snd.fst d13.fst.snd.snd.snd.fst d13.fst.snd.snd.snd.snd.fst d13.fst.snd.snd.snd.snd.snd d2.fst.fst d2.fst.snd.fst d2.fst.snd.snd.fst d2.fst.snd.snd.snd.fst d2.fst.snd.snd.snd.snd.fst d2.fst.snd.snd.snd.snd.snd).bind fun d14 =>
           cn (!d14)
           (some false)
           (cn (!d13.snd == d2.snd)
            (some false)
            ((w_heldScrub.f k d10.snd.fst d10.snd.snd.fst d10.snd.snd.snd.fst d10.snd.snd.snd.snd d4.fst.snd.snd.snd.snd.fst d4.fst.snd.snd.snd.snd.snd (1 : Int)).bind fun d15 =>
             cn (decide (d15 < (0 : Int)))
             (some false)
             (cn (!decide (d15 = d10.fst))
              (some false)
              (some true)))))))))))))) := (opq_eq _).trans (by kernel_rfl)
end Go.Proofs.Ytgnijlfakjjfcaa
