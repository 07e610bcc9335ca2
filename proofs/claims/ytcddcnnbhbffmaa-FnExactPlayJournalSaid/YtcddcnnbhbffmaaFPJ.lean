/- The functions that the statement reaches, as the executor tells them; their contracts. No condition. -/
import Derived.Test.YtcddcnnbhbffmaaE36
import Derived.Test.YtcddcnnbhbffmaaProg
import Derived.Test.YtcddcnnbhbffmaaSFg
namespace Go.Proofs.Ytcddcnnbhbffmaa
open Go Go.Proofs.YtcddcnnbhbffmaaE
set_option linter.unusedVariables false
set_option maxRecDepth 100000
abbrev w_szIntS.s : Sig := ⟨78, [], [.val, .val], [.one (.row 3 (.int .i64)), .one (.int .i64)], [.one (.int .i64)], [], []⟩
noncomputable def w_szIntS.C (k : Nat) : List (Nat × Ctr) := []
noncomputable def w_szIntS.f (k : Nat) (a : List Int) (left : Int) : Option Int := opq (w_szIntS.s.run Try.prog (w_szIntS.C k) k (a, left))
theorem w_szIntS.ok (k : Nat) : CtrOk Try.prog 78 (w_szIntS.s.ctr (fun x => w_szIntS.f k x.1 x.2)) := sig_ok w_szIntS.s .nil (by kernel_rfl) fun _ => opq_eq _
theorem w_szIntS.f_eq (k : Nat) (a : List Int) (left : Int) : w_szIntS.f k a left =
 cn (decide (IntKind.i64.wrap (left - (↑a.length : Int)) < (0 : Int)))
 (some ((-1 : Int)))
 (some (IntKind.i64.wrap (left - (↑a.length : Int)))) := (opq_eq _).trans (by kernel_rfl)
abbrev w_szJournalStep.s : Sig := ⟨93, [], [.val, .val], [.agg [.int .i64, .row 3 (.int .i64), .row 3 (.int .i64)], .one (.int .i64)], [.one (.int .i64)], [], []⟩
noncomputable def w_szJournalStep.C (k : Nat) : List (Nat × Ctr) := [(78, w_szIntS.s.ctr (fun x => w_szIntS.f k x.1 x.2))]
noncomputable def w_szJournalStep.f (k : Nat) (a_Kind : Int) (a_Values : List Int) (a_Kept : List Int) (left : Int) : Option Int := opq (w_szJournalStep.s.run Try.prog (w_szJournalStep.C k) k ((a_Kind, a_Values, a_Kept), left))
theorem w_szJournalStep.ok (k : Nat) : CtrOk Try.prog 93 (w_szJournalStep.s.ctr (fun x => w_szJournalStep.f k x.1.1 x.1.2.1 x.1.2.2 x.2)) := sig_ok w_szJournalStep.s (.cons (w_szIntS.ok k) .nil) (by kernel_rfl) fun _ => opq_eq _
theorem w_szJournalStep.f_eq (k : Nat) (a_Kind : Int) (a_Values : List Int) (a_Kept : List Int) (left : Int) : w_szJournalStep.f k a_Kind a_Values a_Kept left =
 (w_szIntS.f k a_Values left).bind fun d0 =>
 cn (decide (d0 < (0 : Int)))
 (some ((-1 : Int)))
 ((w_szIntS.f k a_Kept d0).bind fun d1 =>
  cn (decide (d1 < (0 : Int)))
  (some ((-1 : Int)))
  (some d1)) := (opq_eq _).trans (by kernel_rfl)
abbrev w_szJournalStepS.s : Sig := ⟨47, [], [.val, .val], [.one (.row 117 (.pair (.int .i64) (.pair (.sl 3 (.int .i64)) (.sl 3 (.int .i64))))), .one (.int .i64)], [.one (.int .i64)], [], [(0, [(0,false),(1,false),(5,false)])]⟩
noncomputable def w_szJournalStepS.C (k : Nat) : List (Nat × Ctr) := [(93, w_szJournalStep.s.ctr (fun x => w_szJournalStep.f k x.1.1 x.1.2.1 x.1.2.2 x.2))]
noncomputable def w_szJournalStepS.f (k : Nat) (a : List (Int × List Int × List Int)) (left : Int) : Option Int := opq (w_szJournalStepS.s.run Try.prog (w_szJournalStepS.C k) k (a, left))
theorem w_szJournalStepS.ok (k : Nat) : CtrOk Try.prog 47 (w_szJournalStepS.s.ctr (fun x => w_szJournalStepS.f k x.1 x.2)) := sig_ok w_szJournalStepS.s (.cons (w_szJournalStep.ok k) .nil) (by kernel_rfl) fun _ => opq_eq _
noncomputable def w_szJournalStepS.l0 (k : Nat) (m : Nat) (a0 : List (Int × List Int × List Int)) (left1 : Int) (i5 : Int) : Option Int := w_szJournalStepS.s.head Try.prog (w_szJournalStepS.C k) k 1 0 [] m [(0, AV.row 117 ((Kind.int IntKind.i64).pair ((Kind.sl 3 (Kind.int IntKind.i64)).pair (Kind.sl 3 (Kind.int IntKind.i64)))) a0), (1, AV.int IntKind.i64 left1), (5, AV.int IntKind.i64 i5)] [Root.dead]
theorem w_szJournalStepS.l0_z (k : Nat) (a0 : List (Int × List Int × List Int)) (left1 : Int) (i5 : Int) : w_szJournalStepS.l0 k 0 a0 left1 i5 = none := by kernel_rfl
theorem w_szJournalStepS.l0_s (k : Nat) (m : Nat) (a0 : List (Int × List Int × List Int)) (left1 : Int) (i5 : Int) : w_szJournalStepS.l0 k (m + 1) a0 left1 i5 =
 cn (decide (i5 < (↑a0.length : Int)))
 (gd (inb i5 a0.length)
  ((w_szJournalStep.f k (getAt ((0 : Int), [], []) a0 i5.toNat).fst (getAt ((0 : Int), [], []) a0 i5.toNat).snd.fst (getAt ((0 : Int), [], []) a0 i5.toNat).snd.snd left1).bind fun d0 =>
   cn (decide (d0 < (0 : Int)))
   (some ((-1 : Int)))
   (w_szJournalStepS.l0 k m a0 d0 (IntKind.i64.wrap (i5 + (1 : Int))))))
 (some left1) := by kernel_rfl
theorem w_szJournalStepS.f_eq (k : Nat) (a : List (Int × List Int × List Int)) (left : Int) : w_szJournalStepS.f k a left =
 cn (decide (IntKind.i64.wrap (left - (↑a.length : Int)) < (0 : Int)))
 (some ((-1 : Int)))
 (w_szJournalStepS.l0 k k a (IntKind.i64.wrap (left - (↑a.length : Int))) ((0 : Int))) := (opq_eq _).trans (by kernel_rfl)
abbrev w_toIntS.s : Sig := ⟨11, [], [.val], [.one (.row 3 (.int .i64))], [.one (.own 3 (.int .i64))], [], [(0, [(0,false),(3,true),(4,false)])]⟩
noncomputable def w_toIntS.C (k : Nat) : List (Nat × Ctr) := []
noncomputable def w_toIntS.f (k : Nat) (a : List Int) : Option (List Int) := opq (w_toIntS.s.run Try.prog (w_toIntS.C k) k a)
theorem w_toIntS.ok (k : Nat) : CtrOk Try.prog 11 (w_toIntS.s.ctr (fun x => w_toIntS.f k x)) := sig_ok w_toIntS.s .nil (by kernel_rfl) fun _ => opq_eq _
noncomputable def w_toIntS.l0 (k : Nat) (m : Nat) (a0 : List Int) (i4 : Int) (h1 : List Int) : Option (List Int) := w_toIntS.s.head Try.prog (w_toIntS.C k) k 1 0 [] m [(0, AV.row 3 (Kind.int IntKind.i64) a0), (3, AV.ref 1), (4, AV.int IntKind.i64 i4)] [Root.dead, Root.rows 3 (Kind.int IntKind.i64) h1]
theorem w_toIntS.l0_z (k : Nat) (a0 : List Int) (i4 : Int) (h1 : List Int) : w_toIntS.l0 k 0 a0 i4 h1 = none := by kernel_rfl
theorem w_toIntS.l0_s (k : Nat) (m : Nat) (a0 : List Int) (i4 : Int) (h1 : List Int) : w_toIntS.l0 k (m + 1) a0 i4 h1 =
 cn (decide (i4 < (↑a0.length : Int)))
 (gd (inb i4 a0.length)
  (gd (inb i4 h1.length)
   (w_toIntS.l0 k m a0 (IntKind.i64.wrap (i4 + (1 : Int))) (h1.set i4.toNat (getAt (0 : Int) a0 i4.toNat)))))
 (some h1) := by kernel_rfl
theorem w_toIntS.f_eq (k : Nat) (a : List Int) : w_toIntS.f k a =
 gd (mkOk (↑a.length : Int) (↑a.length : Int) (Try.prog.bytesOf (3 : Nat)))
 (w_toIntS.l0 k k a ((0 : Int)) (List.replicate (↑a.length : Int).toNat (0 : Int))) := (opq_eq _).trans (by kernel_rfl)
abbrev w_toJournalStep.s : Sig := ⟨94, [], [.val], [.agg [.int .i64, .row 3 (.int .i64), .row 3 (.int .i64)]], [.agg [.int .i64, .own 3 (.int .i64), .own 3 (.int .i64)]], [], []⟩
noncomputable def w_toJournalStep.C (k : Nat) : List (Nat × Ctr) := [(11, w_toIntS.s.ctr (fun x => w_toIntS.f k x))]
noncomputable def w_toJournalStep.f (k : Nat) (a_Kind : Int) (a_Values : List Int) (a_Kept : List Int) : Option (Int × List Int × List Int) := opq (w_toJournalStep.s.run Try.prog (w_toJournalStep.C k) k (a_Kind, a_Values, a_Kept))
theorem w_toJournalStep.ok (k : Nat) : CtrOk Try.prog 94 (w_toJournalStep.s.ctr (fun x => w_toJournalStep.f k x.1 x.2.1 x.2.2)) := sig_ok w_toJournalStep.s (.cons (w_toIntS.ok k) .nil) (by kernel_rfl) fun _ => opq_eq _
theorem w_toJournalStep.f_eq (k : Nat) (a_Kind : Int) (a_Values : List Int) (a_Kept : List Int) : w_toJournalStep.f k a_Kind a_Values a_Kept =
 (w_toIntS.f k a_Values).bind fun d0 =>
 (w_toIntS.f k a_Kept).bind fun d1 =>
 some ((a_Kind, d0, d1)) := (opq_eq _).trans (by kernel_rfl)
abbrev w_toJournalStepS.s : Sig := ⟨48, [], [.val], [.one (.row 117 (.pair (.int .i64) (.pair (.sl 3 (.int .i64)) (.sl 3 (.int .i64)))))], [.one (.own 111 (.pair (.int .i64) (.pair (.sl 3 (.int .i64)) (.sl 3 (.int .i64)))))], [], [(0, [(0,false),(3,true),(4,false)])]⟩
noncomputable def w_toJournalStepS.C (k : Nat) : List (Nat × Ctr) := [(94, w_toJournalStep.s.ctr (fun x => w_toJournalStep.f k x.1 x.2.1 x.2.2))]
noncomputable def w_toJournalStepS.f (k : Nat) (a : List (Int × List Int × List Int)) : Option (List (Int × List Int × List Int)) := opq (w_toJournalStepS.s.run Try.prog (w_toJournalStepS.C k) k a)
theorem w_toJournalStepS.ok (k : Nat) : CtrOk Try.prog 48 (w_toJournalStepS.s.ctr (fun x => w_toJournalStepS.f k x)) := sig_ok w_toJournalStepS.s (.cons (w_toJournalStep.ok k) .nil) (by kernel_rfl) fun _ => opq_eq _
noncomputable def w_toJournalStepS.l0 (k : Nat) (m : Nat) (a0 : List (Int × List Int × List Int)) (i4 : Int) (h1 : List (Int × List Int × List Int)) : Option (List (Int × List Int × List Int)) := w_toJournalStepS.s.head Try.prog (w_toJournalStepS.C k) k 1 0 [] m [(0, AV.row 117 ((Kind.int IntKind.i64).pair ((Kind.sl 3 (Kind.int IntKind.i64)).pair (Kind.sl 3 (Kind.int IntKind.i64)))) a0), (3, AV.ref 1), (4, AV.int IntKind.i64 i4)] [Root.dead, Root.rows 111 ((Kind.int IntKind.i64).pair ((Kind.sl 3 (Kind.int IntKind.i64)).pair (Kind.sl 3 (Kind.int IntKind.i64)))) h1]
theorem w_toJournalStepS.l0_z (k : Nat) (a0 : List (Int × List Int × List Int)) (i4 : Int) (h1 : List (Int × List Int × List Int)) : w_toJournalStepS.l0 k 0 a0 i4 h1 = none := by kernel_rfl
theorem w_toJournalStepS.l0_s (k : Nat) (m : Nat) (a0 : List (Int × List Int × List Int)) (i4 : Int) (h1 : List (Int × List Int × List Int)) : w_toJournalStepS.l0 k (m + 1) a0 i4 h1 =
 cn (decide (i4 < (↑a0.length : Int)))
 (gd (inb i4 a0.length)
  ((w_toJournalStep.f k (getAt ((0 : Int), [], []) a0 i4.toNat).fst (getAt ((0 : Int), [], []) a0 i4.toNat).snd.fst (getAt ((0 : Int), [], []) a0 i4.toNat).snd.snd).bind fun d0 =>
   gd (inb i4 h1.length)
   (w_toJournalStepS.l0 k m a0 (IntKind.i64.wrap (i4 + (1 : Int))) (h1.set i4.toNat (d0.fst, d0.snd.fst, d0.snd.snd)))))
 (some h1) := by kernel_rfl
theorem w_toJournalStepS.f_eq (k : Nat) (a : List (Int × List Int × List Int)) : w_toJournalStepS.f k a =
 gd (mkOk (↑a.length : Int) (↑a.length : Int) (Try.prog.bytesOf (111 : Nat)))
 (w_toJournalStepS.l0 k k a ((0 : Int)) (List.replicate (↑a.length : Int).toNat ((0 : Int), [], []))) := (opq_eq _).trans (by kernel_rfl)
abbrev s_l1In.s : Sig := ⟨79, [], [.val, .val, .val], [.one (.int .i64), .one (.int .i64), .one (.int .i64)], [.one .bool], [], []⟩
noncomputable def s_l1In.C (k : Nat) : List (Nat × Ctr) := []
noncomputable def s_l1In.f (k : Nat) (n : Int) (lo : Int) (hi : Int) : Option Bool := opq (s_l1In.s.run Try.prog (s_l1In.C k) k (n, lo, hi))
theorem s_l1In.ok (k : Nat) : CtrOk Try.prog 79 (s_l1In.s.ctr (fun x => s_l1In.f k x.1 x.2.1 x.2.2)) := sig_ok s_l1In.s .nil (by kernel_rfl) fun _ => opq_eq _
theorem s_l1In.f_eq (k : Nat) (n : Int) (lo : Int) (hi : Int) : s_l1In.f k n lo hi =
 cn (decide (lo ≤ n))
 (some (decide (n ≤ hi)))
 (some false) := (opq_eq _).trans (by kernel_rfl)
abbrev s_NewDisk.s : Sig := ⟨61, [], [.val], [.one (.int .i64)], [.agg [.own 9 .str, .own 9 .str, .own 4 .bool], .one .bool], [], []⟩
noncomputable def s_NewDisk.C (k : Nat) : List (Nat × Ctr) := [(79, s_l1In.s.ctr (fun x => s_l1In.f k x.1 x.2.1 x.2.2))]
noncomputable def s_NewDisk.f (k : Nat) (sectors : Int) : Option ((List ByteArray × List ByteArray × List Bool) × Bool) := opq (s_NewDisk.s.run Try.prog (s_NewDisk.C k) k sectors)
theorem s_NewDisk.ok (k : Nat) : CtrOk Try.prog 61 (s_NewDisk.s.ctr (fun x => s_NewDisk.f k x)) := sig_ok s_NewDisk.s (.cons (s_l1In.ok k) .nil) (by kernel_rfl) fun _ => opq_eq _
theorem s_NewDisk.f_eq (k : Nat) (sectors : Int) : s_NewDisk.f k sectors =
 (s_l1In.f k sectors (1 : Int) (24 : Int)).bind fun d0 =>
 cn (!d0)
 (some ((([], [], []), false)))
 (both
  (gd (mkOk sectors sectors (Try.prog.bytesOf (9 : Nat)))
   (both
    (gd (mkOk sectors sectors (Try.prog.bytesOf (9 : Nat)))
     (gd (mkOk sectors sectors (Try.prog.bytesOf (4 : Nat)))
      (some (((List.replicate sectors.toNat ByteArray.empty, List.replicate sectors.toNat ByteArray.empty, List.replicate sectors.toNat false), true)))))
    (gd (mkOk sectors sectors (Try.prog.bytesOf (4 : Nat)))
     (gd (mkOk sectors sectors (Try.prog.bytesOf (9 : Nat)))
      (some (((List.replicate sectors.toNat ByteArray.empty, List.replicate sectors.toNat ByteArray.empty, List.replicate sectors.toNat false), true)))))))
  (both
   (gd (mkOk sectors sectors (Try.prog.bytesOf (9 : Nat)))
    (both
     (gd (mkOk sectors sectors (Try.prog.bytesOf (9 : Nat)))
      (gd (mkOk sectors sectors (Try.prog.bytesOf (4 : Nat)))
       (some (((List.replicate sectors.toNat ByteArray.empty, List.replicate sectors.toNat ByteArray.empty, List.replicate sectors.toNat false), true)))))
     (gd (mkOk sectors sectors (Try.prog.bytesOf (4 : Nat)))
      (gd (mkOk sectors sectors (Try.prog.bytesOf (9 : Nat)))
       (some (((List.replicate sectors.toNat ByteArray.empty, List.replicate sectors.toNat ByteArray.empty, List.replicate sectors.toNat false), true)))))))
   (gd (mkOk sectors sectors (Try.prog.bytesOf (4 : Nat)))
    (dup
     (gd (mkOk sectors sectors (Try.prog.bytesOf (9 : Nat)))
      (gd (mkOk sectors sectors (Try.prog.bytesOf (9 : Nat)))
       (some (((List.replicate sectors.toNat ByteArray.empty, List.replicate sectors.toNat ByteArray.empty, List.replicate sectors.toNat false), true))))))))) := (opq_eq _).trans (by kernel_rfl)
abbrev s_l15Half.s : Sig := ⟨102, [], [.val], [.one (.int .i64)], [.one (.int .i64)], [], []⟩
noncomputable def s_l15Half.C (k : Nat) : List (Nat × Ctr) := []
noncomputable def s_l15Half.f (k : Nat) (epoch : Int) : Option Int := opq (s_l15Half.s.run Try.prog (s_l15Half.C k) k epoch)
theorem s_l15Half.ok (k : Nat) : CtrOk Try.prog 102 (s_l15Half.s.ctr (fun x => s_l15Half.f k x)) := sig_ok s_l15Half.s .nil (by kernel_rfl) fun _ => opq_eq _
theorem s_l15Half.f_eq (k : Nat) (epoch : Int) : s_l15Half.f k epoch =
 some (IntKind.i64.wrap ((1 : Int) + IntKind.i64.wrap ((2 : Int) * epoch.tmod (2 : Int)))) := (opq_eq _).trans (by kernel_rfl)
abbrev s_l6Bytes.s : Sig := ⟨96, [], [.val, .val], [.one (.int .i64), .one (.int .i64)], [.one .str], [], [(0, [(0,false),(5,true),(6,false)])]⟩
noncomputable def s_l6Bytes.C (k : Nat) : List (Nat × Ctr) := []
noncomputable def s_l6Bytes.f (k : Nat) (n : Int) (many : Int) : Option ByteArray := opq (s_l6Bytes.s.run Try.prog (s_l6Bytes.C k) k (n, many))
theorem s_l6Bytes.ok (k : Nat) : CtrOk Try.prog 96 (s_l6Bytes.s.ctr (fun x => s_l6Bytes.f k x.1 x.2)) := sig_ok s_l6Bytes.s .nil (by kernel_rfl) fun _ => opq_eq _
noncomputable def s_l6Bytes.l0 (k : Nat) (m : Nat) (n0 : Int) (i6 : Int) (h1 : List Int) : Option ByteArray := s_l6Bytes.s.head Try.prog (s_l6Bytes.C k) k 1 0 [] m [(0, AV.int IntKind.i64 n0), (5, AV.ref 1), (6, AV.int IntKind.i64 i6)] [Root.dead, Root.rows 5 (Kind.int IntKind.u8) h1]
theorem s_l6Bytes.l0_z (k : Nat) (n0 : Int) (i6 : Int) (h1 : List Int) : s_l6Bytes.l0 k 0 n0 i6 h1 = none := by kernel_rfl
theorem s_l6Bytes.l0_s (k : Nat) (m : Nat) (n0 : Int) (i6 : Int) (h1 : List Int) : s_l6Bytes.l0 k (m + 1) n0 i6 h1 =
 cn (decide ((0 : Int) ≤ i6))
 (gd (inb i6 h1.length)
  (s_l6Bytes.l0 k m (n0.fdiv ((2 : Int) ^ (8 : Nat))) (IntKind.i64.wrap (i6 - (1 : Int))) (h1.set i6.toNat (IntKind.u8.wrap n0))))
 (some (strOfNums h1)) := by kernel_rfl
theorem s_l6Bytes.f_eq (k : Nat) (n : Int) (many : Int) : s_l6Bytes.f k n many =
 gd (mkOk many many (Try.prog.bytesOf (5 : Nat)))
 (s_l6Bytes.l0 k k n (IntKind.i64.wrap (many - (1 : Int))) (List.replicate many.toNat (0 : Int))) := (opq_eq _).trans (by kernel_rfl)
abbrev s_l15Bytes.s : Sig := ⟨55, [], [.val], [.one (.row 3 (.int .i64))], [.one (.own 9 .str)], [], [(0, [(3,false),(6,true),(7,false),(8,false)])]⟩
noncomputable def s_l15Bytes.C (k : Nat) : List (Nat × Ctr) := [(96, s_l6Bytes.s.ctr (fun x => s_l6Bytes.f k x.1 x.2))]
noncomputable def s_l15Bytes.f (k : Nat) (values : List Int) : Option (List ByteArray) := opq (s_l15Bytes.s.run Try.prog (s_l15Bytes.C k) k values)
theorem s_l15Bytes.ok (k : Nat) : CtrOk Try.prog 55 (s_l15Bytes.s.ctr (fun x => s_l15Bytes.f k x)) := sig_ok s_l15Bytes.s (.cons (s_l6Bytes.ok k) .nil) (by kernel_rfl) fun _ => opq_eq _
noncomputable def s_l15Bytes.l0 (k : Nat) (m : Nat) (s3 : ByteArray) (t6 : List Int) (t7 : Int) (t8 : Int) : Option (List ByteArray) := s_l15Bytes.s.head Try.prog (s_l15Bytes.C k) k 1 0 [] m [(3, AV.str s3), (6, AV.row 3 (Kind.int IntKind.i64) t6), (7, AV.int IntKind.i64 t7), (8, AV.int IntKind.i64 t8)] [Root.dead]
theorem s_l15Bytes.l0_z (k : Nat) (s3 : ByteArray) (t6 : List Int) (t7 : Int) (t8 : Int) : s_l15Bytes.l0 k 0 s3 t6 t7 t8 = none := by kernel_rfl
theorem s_l15Bytes.l0_s (k : Nat) (m : Nat) (s3 : ByteArray) (t6 : List Int) (t7 : Int) (t8 : Int) : s_l15Bytes.l0 k (m + 1) s3 t6 t7 t8 =
 cn (decide (t8 < t7))
 (gd (inb t8 t6.length)
  ((s_l6Bytes.f k (getAt (0 : Int) t6 t8.toNat) (2 : Int)).bind fun d0 =>
   gd (decide (s3.size + ByteArray.size d0 ≤ (140737488355328 : Nat)))
   (s_l15Bytes.l0 k m (s3 ++ d0) t6 t7 (IntKind.i64.wrap (t8 + (1 : Int))))))
 (gd (true && decide ((6 : Int) ≤ (↑s3.size : Int)))
  (gd (true && decide ((6 : Int) ≤ (↑s3.size : Int)))
   (some ([s3.extract (0 : Nat) (6 : Nat), s3.extract (6 : Nat) s3.size])))) := by kernel_rfl
theorem s_l15Bytes.f_eq (k : Nat) (values : List Int) : s_l15Bytes.f k values =
 s_l15Bytes.l0 k k ByteArray.empty values ((↑values.length : Int)) ((0 : Int)) := (opq_eq _).trans (by kernel_rfl)
abbrev s_l5Byte.s : Sig := ⟨135, [], [.val], [.one (.int .i64)], [.one (.int .i64)], [], [(0, [(0,false),(3,false)])]⟩
noncomputable def s_l5Byte.C (k : Nat) : List (Nat × Ctr) := []
noncomputable def s_l5Byte.f (k : Nat) (sum : Int) : Option Int := opq (s_l5Byte.s.run Try.prog (s_l5Byte.C k) k sum)
theorem s_l5Byte.ok (k : Nat) : CtrOk Try.prog 135 (s_l5Byte.s.ctr (fun x => s_l5Byte.f k x)) := sig_ok s_l5Byte.s .nil (by kernel_rfl) fun _ => opq_eq _
noncomputable def s_l5Byte.l0 (k : Nat) (m : Nat) (sum0 : Int) (k3 : Int) : Option Int := s_l5Byte.s.head Try.prog (s_l5Byte.C k) k 1 0 [] m [(0, AV.int IntKind.i64 sum0), (3, AV.int IntKind.i64 k3)] [Root.dead]
theorem s_l5Byte.l0_z (k : Nat) (sum0 : Int) (k3 : Int) : s_l5Byte.l0 k 0 sum0 k3 = none := by kernel_rfl
theorem s_l5Byte.l0_s (k : Nat) (m : Nat) (sum0 : Int) (k3 : Int) : s_l5Byte.l0 k (m + 1) sum0 k3 =
 cn (decide (k3 < (8 : Int)))
 (cn (decide (IntKind.i64.wrap (↑(BitVec.ofInt (64 : Nat) sum0 &&& BitVec.ofInt (64 : Nat) (1 : Int)).toNat : Int) = (1 : Int)))
  (s_l5Byte.l0 k m (IntKind.i64.wrap (↑(BitVec.ofInt (64 : Nat) (sum0.fdiv ((2 : Int) ^ (1 : Nat))) ^^^ BitVec.ofInt (64 : Nat) (2197175160 : Int)).toNat : Int)) (IntKind.i64.wrap (k3 + (1 : Int))))
  (s_l5Byte.l0 k m (sum0.fdiv ((2 : Int) ^ (1 : Nat))) (IntKind.i64.wrap (k3 + (1 : Int)))))
 (some sum0) := by kernel_rfl
theorem s_l5Byte.f_eq (k : Nat) (sum : Int) : s_l5Byte.f k sum =
 s_l5Byte.l0 k k sum ((0 : Int)) := (opq_eq _).trans (by kernel_rfl)
abbrev s_l5On.s : Sig := ⟨127, [], [.val, .val], [.one (.int .i64), .one .str], [.one (.int .i64)], [], [(0, [(0,false),(1,false),(5,false)])]⟩
noncomputable def s_l5On.C (k : Nat) : List (Nat × Ctr) := [(135, s_l5Byte.s.ctr (fun x => s_l5Byte.f k x))]
noncomputable def s_l5On.f (k : Nat) (sum : Int) (s : ByteArray) : Option Int := opq (s_l5On.s.run Try.prog (s_l5On.C k) k (sum, s))
theorem s_l5On.ok (k : Nat) : CtrOk Try.prog 127 (s_l5On.s.ctr (fun x => s_l5On.f k x.1 x.2)) := sig_ok s_l5On.s (.cons (s_l5Byte.ok k) .nil) (by kernel_rfl) fun _ => opq_eq _
noncomputable def s_l5On.l0 (k : Nat) (m : Nat) (sum0 : Int) (s1 : ByteArray) (i5 : Int) : Option Int := s_l5On.s.head Try.prog (s_l5On.C k) k 1 0 [] m [(0, AV.int IntKind.i64 sum0), (1, AV.str s1), (5, AV.int IntKind.i64 i5)] [Root.dead]
theorem s_l5On.l0_z (k : Nat) (sum0 : Int) (s1 : ByteArray) (i5 : Int) : s_l5On.l0 k 0 sum0 s1 i5 = none := by kernel_rfl
theorem s_l5On.l0_s (k : Nat) (m : Nat) (sum0 : Int) (s1 : ByteArray) (i5 : Int) : s_l5On.l0 k (m + 1) sum0 s1 i5 =
 cn (decide (i5 < (↑s1.size : Int)))
 (gd (inb i5 s1.size)
  ((s_l5Byte.f k (IntKind.i64.wrap (↑(BitVec.ofInt (64 : Nat) sum0 ^^^ BitVec.ofInt (64 : Nat) (IntKind.i64.wrap (↑(s1.data.getD i5.toNat (0 : UInt8)).toNat : Int))).toNat : Int))).bind fun d0 =>
   s_l5On.l0 k m d0 s1 (IntKind.i64.wrap (i5 + (1 : Int)))))
 (some (IntKind.i64.wrap (↑(BitVec.ofInt (64 : Nat) sum0 ^^^ BitVec.ofInt (64 : Nat) (4294967295 : Int)).toNat : Int))) := by kernel_rfl
theorem s_l5On.f_eq (k : Nat) (sum : Int) (s : ByteArray) : s_l5On.f k sum s =
 s_l5On.l0 k k (IntKind.i64.wrap (↑(BitVec.ofInt (64 : Nat) sum ^^^ BitVec.ofInt (64 : Nat) (4294967295 : Int)).toNat : Int)) s ((0 : Int)) := (opq_eq _).trans (by kernel_rfl)
abbrev s_l6Low.s : Sig := ⟨126, [], [.val], [.one (.int .i64)], [.one .str], [], [(0, [(0,false),(3,false),(4,false)])]⟩
noncomputable def s_l6Low.C (k : Nat) : List (Nat × Ctr) := [(96, s_l6Bytes.s.ctr (fun x => s_l6Bytes.f k x.1 x.2))]
noncomputable def s_l6Low.f (k : Nat) (n : Int) : Option ByteArray := opq (s_l6Low.s.run Try.prog (s_l6Low.C k) k n)
theorem s_l6Low.ok (k : Nat) : CtrOk Try.prog 126 (s_l6Low.s.ctr (fun x => s_l6Low.f k x)) := sig_ok s_l6Low.s (.cons (s_l6Bytes.ok k) .nil) (by kernel_rfl) fun _ => opq_eq _
noncomputable def s_l6Low.l0 (k : Nat) (m : Nat) (n0 : Int) (s3 : ByteArray) (k4 : Int) : Option ByteArray := s_l6Low.s.head Try.prog (s_l6Low.C k) k 1 0 [] m [(0, AV.int IntKind.i64 n0), (3, AV.str s3), (4, AV.int IntKind.i64 k4)] [Root.dead]
theorem s_l6Low.l0_z (k : Nat) (n0 : Int) (s3 : ByteArray) (k4 : Int) : s_l6Low.l0 k 0 n0 s3 k4 = none := by kernel_rfl
theorem s_l6Low.l0_s (k : Nat) (m : Nat) (n0 : Int) (s3 : ByteArray) (k4 : Int) : s_l6Low.l0 k (m + 1) n0 s3 k4 =
 cn (decide (k4 < (4 : Int)))
 (gd (decide ((0 : Int) ≤ IntKind.u64.wrap (IntKind.i64.wrap ((8 : Int) * k4))))
  ((s_l6Bytes.f k (n0.fdiv ((2 : Int) ^ min (IntKind.u64.wrap (IntKind.i64.wrap ((8 : Int) * k4))).toNat (64 : Nat))) (1 : Int)).bind fun d0 =>
   gd (decide (s3.size + ByteArray.size d0 ≤ (140737488355328 : Nat)))
   (s_l6Low.l0 k m n0 (s3 ++ d0) (IntKind.i64.wrap (k4 + (1 : Int))))))
 (some s3) := by kernel_rfl
theorem s_l6Low.f_eq (k : Nat) (n : Int) : s_l6Low.f k n =
 s_l6Low.l0 k k n ByteArray.empty ((0 : Int)) := (opq_eq _).trans (by kernel_rfl)
abbrev s_l6Frame.s : Sig := ⟨101, [], [.val], [.agg [.int .i64, .int .i64, .int .i64, .str]], [.one .str], [], []⟩
noncomputable def s_l6Frame.C (k : Nat) : List (Nat × Ctr) := [(126, s_l6Low.s.ctr (fun x => s_l6Low.f k x)), (127, s_l5On.s.ctr (fun x => s_l5On.f k x.1 x.2)), (96, s_l6Bytes.s.ctr (fun x => s_l6Bytes.f k x.1 x.2))]
noncomputable def s_l6Frame.f (k : Nat) (f_Kind : Int) (f_At : Int) (f_Epoch : Int) (f_Body : ByteArray) : Option ByteArray := opq (s_l6Frame.s.run Try.prog (s_l6Frame.C k) k (f_Kind, f_At, f_Epoch, f_Body))
theorem s_l6Frame.ok (k : Nat) : CtrOk Try.prog 101 (s_l6Frame.s.ctr (fun x => s_l6Frame.f k x.1 x.2.1 x.2.2.1 x.2.2.2)) := sig_ok s_l6Frame.s (.cons (s_l6Low.ok k) (.cons (s_l5On.ok k) (.cons (s_l6Bytes.ok k) .nil))) (by kernel_rfl) fun _ => opq_eq _
theorem s_l6Frame.f_eq (k : Nat) (f_Kind : Int) (f_At : Int) (f_Epoch : Int) (f_Body : ByteArray) : s_l6Frame.f k f_Kind f_At f_Epoch f_Body =

 both ((s_l6Bytes.f k f_Kind (1 : Int)).bind fun d0 => both ((s_l6Bytes.f k f_At (2 : Int)).bind fun d1 => gd (decide (ByteArray.size d0 + ByteArray.size d1 ≤ (140737488355328 : Nat))) (both ((s_l6Bytes.f k f_Epoch (2 : Int)).bind fun d2 => gd (decide ((d0 ++ d1).size + ByteArray.size d2 ≤ (140737488355328 : Nat))) (both ((s_l6Bytes.f k (↑f_Body.size : Int) (1 : Int)).bind fun d3 => gd (decide ((d0 ++ d1 ++ d2).size + ByteArray.size d3 ≤ (140737488355328 : Nat))) (gd (decide ((d0 ++ d1 ++ d2 ++ d3).size + f_Body.size ≤ (140737488355328 : Nat))) (gd (mkOk (IntKind.i64.wrap (IntKind.i64.wrap ((16 : Int) - (↑f_Body.size : Int)) + (2 : Int))) (IntKind.i64.wrap (IntKind.i64.wrap ((16 : Int) - (↑f_Body.size : Int)) + (2 : Int))) (Try.prog.bytesOf (5 : Nat))) (gd (decide ((d0 ++ d1 ++ d2 ++ d3 ++ f_Body).size + (strOfNums (List.replicate (IntKind.i64.wrap (IntKind.i64.wrap ((16 : Int) - (↑f_Body.size : Int)) + (2 : Int))).toNat (0 : Int))).size ≤ (140737488355328 : Nat))) ((s_l5On.f k (0 : Int) (d0 ++ d1 ++ d2 ++ d3 ++ f_Body ++ strOfNums (List.replicate (IntKind.i64.wrap (IntKind.i64.wrap ((16 : Int) - (↑f_Body.size : Int)) + (2 : Int))).toNat (0 : Int)))).bind fun d4 => (s_l6Low.f k d4).bind fun d5 => gd (decide ((d0 ++ d1 ++ d2 ++ d3 ++ f_Body ++ strOfNums (List.replicate (IntKind.i64.wrap (IntKind.i64.wrap ((16 : Int) - (↑f_Body.size : Int)) + (2 : Int))).toNat (0 : Int))).size + ByteArray.size d5 ≤ (140737488355328 : Nat))) (some (d0 ++ d1 ++ d2 ++ d3 ++ f_Body ++ strOfNums (List.replicate (IntKind.i64.wrap (IntKind.i64.wrap ((16 : Int) - (↑f_Body.size : Int)) + (2 : Int))).toNat (0 : Int)) ++ d5))))))) (gd (mkOk (IntKind.i64.wrap (IntKind.i64.wrap ((16 : Int) - (↑f_Body.size : Int)) + (2 : Int))) (IntKind.i64.wrap (IntKind.i64.wrap ((16 : Int) - (↑f_Body.size : Int)) + (2 : Int))) (Try.prog.bytesOf (5 : Nat))) (dup ((s_l6Bytes.f k (↑f_Body.size : Int) (1 : Int)).bind fun d3 => gd (decide ((d0 ++ d1 ++ d2).size + ByteArray.size d3 ≤ (140737488355328 : Nat))) (gd (decide ((d0 ++ d1 ++ d2 ++ d3).size + f_Body.size ≤ (140737488355328 : Nat))) (gd (decide ((d0 ++ d1 ++ d2 ++ d3 ++ f_Body).size + (strOfNums (List.replicate (IntKind.i64.wrap (IntKind.i64.wrap ((16 : Int) - (↑f_Body.size : Int)) + (2 : Int))).toNat (0 : Int))).size ≤ (140737488355328 : Nat))) ((s_l5On.f k (0 : Int) (d0 ++ d1 ++ d2 ++ d3 ++ f_Body ++ strOfNums (List.replicate (IntKind.i64.wrap (IntKind.i64.wrap ((16 : Int) - (↑f_Body.size : Int)) + (2 : Int))).toNat (0 : Int)))).bind fun d4 => (s_l6Low.f k d4).bind fun d5 => gd (decide ((d0 ++ d1 ++ d2 ++ d3 ++ f_Body ++ strOfNums (List.replicate (IntKind.i64.wrap (IntKind.i64.wrap ((16 : Int) - (↑f_Body.size : Int)) + (2 : Int))).toNat (0 : Int))).size + ByteArray.size d5 ≤ (140737488355328 : Nat))) (some (d0 ++ d1 ++ d2 ++ d3 ++ f_Body ++ strOfNums (List.replicate (IntKind.i64.wrap (IntKind.i64.wrap ((16 : Int) - (↑f_Body.size : Int)) + (2 : Int))).toNat (0 : Int)) ++ d5)))))))))) (gd (mkOk (IntKind.i64.wrap (IntKind.i64.wrap ((16 : Int) - (↑f_Body.size : Int)) + (2 : Int))) (IntKind.i64.wrap (IntKind.i64.wrap ((16 : Int) - (↑f_Body.size : Int)) + (2 : Int))) (Try.prog.bytesOf (5 : Nat))) (both ((s_l6Bytes.f k f_Epoch (2 : Int)).bind fun d2 => gd (decide ((d0 ++ d1).size + ByteArray.size d2 ≤ (140737488355328 : Nat))) (dup ((s_l6Bytes.f k (↑f_Body.size : Int) (1 : Int)).bind fun d3 => gd (decide ((d0 ++ d1 ++ d2).size + ByteArray.size d3 ≤ (140737488355328 : Nat))) (gd (decide ((d0 ++ d1 ++ d2 ++ d3).size + f_Body.size ≤ (140737488355328 : Nat))) (gd (decide ((d0 ++ d1 ++ d2 ++ d3 ++ f_Body).size + (strOfNums (List.replicate (IntKind.i64.wrap (IntKind.i64.wrap ((16 : Int) - (↑f_Body.size : Int)) + (2 : Int))).toNat (0 : Int))).size ≤ (140737488355328 : Nat))) ((s_l5On.f k (0 : Int) (d0 ++ d1 ++ d2 ++ d3 ++ f_Body ++ strOfNums (List.replicate (IntKind.i64.wrap (IntKind.i64.wrap ((16 : Int) - (↑f_Body.size : Int)) + (2 : Int))).toNat (0 : Int)))).bind fun d4 => (s_l6Low.f k d4).bind fun d5 => gd (decide ((d0 ++ d1 ++ d2 ++ d3 ++ f_Body ++ strOfNums (List.replicate (IntKind.i64.wrap (IntKind.i64.wrap ((16 : Int) - (↑f_Body.size : Int)) + (2 : Int))).toNat (0 : Int))).size + ByteArray.size d5 ≤ (140737488355328 : Nat))) (some (d0 ++ d1 ++ d2 ++ d3 ++ f_Body ++ strOfNums (List.replicate (IntKind.i64.wrap (IntKind.i64.wrap ((16 : Int) - (↑f_Body.size : Int)) + (2 : Int))).toNat (0 : Int)) ++ d5)))))))) ((s_l6Bytes.f k f_Epoch (2 : Int)).bind fun d2 => gd (decide ((d0 ++ d1).size + ByteArray.size d2 ≤ (140737488355328 : Nat))) ((s_l6Bytes.f k (↑f_Body.size : Int) (1 : Int)).bind fun d3 => gd (decide ((d0 ++ d1 ++ d2).size + ByteArray.size d3 ≤ (140737488355328 : Nat))) (gd (decide ((d0 ++ d1 ++ d2 ++ d3).size + f_Body.size ≤ (140737488355328 : Nat))) (gd (decide ((d0 ++ d1 ++ d2 ++ d3 ++ f_Body).size + (strOfNums (List.replicate (IntKind.i64.wrap (IntKind.i64.wrap ((16 : Int) - (↑f_Body.size : Int)) + (2 : Int))).toNat (0 : Int))).size ≤ (140737488355328 : Nat))) ((s_l5On.f k (0 : Int) (d0 ++ d1 ++ d2 ++ d3 ++ f_Body ++ strOfNums (List.replicate (IntKind.i64.wrap (IntKind.i64.wrap ((16 : Int) - (↑f_Body.size : Int)) + (2 : Int))).toNat (0 : Int)))).bind fun d4 => (s_l6Low.f k d4).bind fun d5 => gd (decide ((d0 ++ d1 ++ d2 ++ d3 ++ f_Body ++ strOfNums (List.replicate (IntKind.i64.wrap (IntKind.i64.wrap ((16 : Int) - (↑f_Body.size : Int)) + (2 : Int))).toNat (0 : Int))).size + ByteArray.size d5 ≤ (140737488355328 : Nat))) (some (d0 ++ d1 ++ d2 ++ d3 ++ f_Body ++ strOfNums (List.replicate (IntKind.i64.wrap (IntKind.i64.wrap ((16 : Int) - (↑f_Body.size : Int)) + (2 : Int))).toNat (0 : Int)) ++ d5))))))))))) (gd (mkOk (IntKind.i64.wrap (IntKind.i64.wrap ((16 : Int) - (↑f_Body.size : Int)) + (2 : Int))) (IntKind.i64.wrap (IntKind.i64.wrap ((16 : Int) - (↑f_Body.size : Int)) + (2 : Int))) (Try.prog.bytesOf (5 : Nat))) (both ((s_l6Bytes.f k f_At (2 : Int)).bind fun d1 => gd (decide (ByteArray.size d0 + ByteArray.size d1 ≤ (140737488355328 : Nat))) (both ((s_l6Bytes.f k f_Epoch (2 : Int)).bind fun d2 => gd (decide ((d0 ++ d1).size + ByteArray.size d2 ≤ (140737488355328 : Nat))) (dup ((s_l6Bytes.f k (↑f_Body.size : Int) (1 : Int)).bind fun d3 => gd (decide ((d0 ++ d1 ++ d2).size + ByteArray.size d3 ≤ (140737488355328 : Nat))) (gd (decide ((d0 ++ d1 ++ d2 ++ d3).size + f_Body.size ≤ (140737488355328 : Nat))) (gd (decide ((d0 ++ d1 ++ d2 ++ d3 ++ f_Body).size + (strOfNums (List.replicate (IntKind.i64.wrap (IntKind.i64.wrap ((16 : Int) - (↑f_Body.size : Int)) + (2 : Int))).toNat (0 : Int))).size ≤ (140737488355328 : Nat))) ((s_l5On.f k (0 : Int) (d0 ++ d1 ++ d2 ++ d3 ++ f_Body ++ strOfNums (List.replicate (IntKind.i64.wrap (IntKind.i64.wrap ((16 : Int) - (↑f_Body.size : Int)) + (2 : Int))).toNat (0 : Int)))).bind fun d4 => (s_l6Low.f k d4).bind fun d5 => gd (decide ((d0 ++ d1 ++ d2 ++ d3 ++ f_Body ++ strOfNums (List.replicate (IntKind.i64.wrap (IntKind.i64.wrap ((16 : Int) - (↑f_Body.size : Int)) + (2 : Int))).toNat (0 : Int))).size + ByteArray.size d5 ≤ (140737488355328 : Nat))) (some (d0 ++ d1 ++ d2 ++ d3 ++ f_Body ++ strOfNums (List.replicate (IntKind.i64.wrap (IntKind.i64.wrap ((16 : Int) - (↑f_Body.size : Int)) + (2 : Int))).toNat (0 : Int)) ++ d5)))))))) ((s_l6Bytes.f k f_Epoch (2 : Int)).bind fun d2 => gd (decide ((d0 ++ d1).size + ByteArray.size d2 ≤ (140737488355328 : Nat))) ((s_l6Bytes.f k (↑f_Body.size : Int) (1 : Int)).bind fun d3 => gd (decide ((d0 ++ d1 ++ d2).size + ByteArray.size d3 ≤ (140737488355328 : Nat))) (gd (decide ((d0 ++ d1 ++ d2 ++ d3).size + f_Body.size ≤ (140737488355328 : Nat))) (gd (decide ((d0 ++ d1 ++ d2 ++ d3 ++ f_Body).size + (strOfNums (List.replicate (IntKind.i64.wrap (IntKind.i64.wrap ((16 : Int) - (↑f_Body.size : Int)) + (2 : Int))).toNat (0 : Int))).size ≤ (140737488355328 : Nat))) ((s_l5On.f k (0 : Int) (d0 ++ d1 ++ d2 ++ d3 ++ f_Body ++ strOfNums (List.replicate (IntKind.i64.wrap (IntKind.i64.wrap ((16 : Int) - (↑f_Body.size : Int)) + (2 : Int))).toNat (0 : Int)))).bind fun d4 => (s_l6Low.f k d4).bind fun d5 => gd (decide ((d0 ++ d1 ++ d2 ++ d3 ++ f_Body ++ strOfNums (List.replicate (IntKind.i64.wrap (IntKind.i64.wrap ((16 : Int) - (↑f_Body.size : Int)) + (2 : Int))).toNat (0 : Int))).size + ByteArray.size d5 ≤ (140737488355328 : Nat))) (some (d0 ++ d1 ++ d2 ++ d3 ++ f_Body ++ strOfNums (List.replicate (IntKind.i64.wrap (IntKind.i64.wrap ((16 : Int) - (↑f_Body.size : Int)) + (2 : Int))).toNat (0 : Int)) ++ d5))))))))) ((s_l6Bytes.f k f_At (2 : Int)).bind fun d1 => gd (decide (ByteArray.size d0 + ByteArray.size d1 ≤ (140737488355328 : Nat))) ((s_l6Bytes.f k f_Epoch (2 : Int)).bind fun d2 => gd (decide ((d0 ++ d1).size + ByteArray.size d2 ≤ (140737488355328 : Nat))) ((s_l6Bytes.f k (↑f_Body.size : Int) (1 : Int)).bind fun d3 => gd (decide ((d0 ++ d1 ++ d2).size + ByteArray.size d3 ≤ (140737488355328 : Nat))) (gd (decide ((d0 ++ d1 ++ d2 ++ d3).size + f_Body.size ≤ (140737488355328 : Nat))) (gd (decide ((d0 ++ d1 ++ d2 ++ d3 ++ f_Body).size + (strOfNums (List.replicate (IntKind.i64.wrap (IntKind.i64.wrap ((16 : Int) - (↑f_Body.size : Int)) + (2 : Int))).toNat (0 : Int))).size ≤ (140737488355328 : Nat))) ((s_l5On.f k (0 : Int) (d0 ++ d1 ++ d2 ++ d3 ++ f_Body ++ strOfNums (List.replicate (IntKind.i64.wrap (IntKind.i64.wrap ((16 : Int) - (↑f_Body.size : Int)) + (2 : Int))).toNat (0 : Int)))).bind fun d4 => (s_l6Low.f k d4).bind fun d5 => gd (decide ((d0 ++ d1 ++ d2 ++ d3 ++ f_Body ++ strOfNums (List.replicate (IntKind.i64.wrap (IntKind.i64.wrap ((16 : Int) - (↑f_Body.size : Int)) + (2 : Int))).toNat (0 : Int))).size + ByteArray.size d5 ≤ (140737488355328 : Nat))) (some (d0 ++ d1 ++ d2 ++ d3 ++ f_Body ++ strOfNums (List.replicate (IntKind.i64.wrap (IntKind.i64.wrap ((16 : Int) - (↑f_Body.size : Int)) + (2 : Int))).toNat (0 : Int)) ++ d5))))))))))) (gd (mkOk (IntKind.i64.wrap (IntKind.i64.wrap ((16 : Int) - (↑f_Body.size : Int)) + (2 : Int))) (IntKind.i64.wrap (IntKind.i64.wrap ((16 : Int) - (↑f_Body.size : Int)) + (2 : Int))) (Try.prog.bytesOf (5 : Nat))) (both ((s_l6Bytes.f k f_Kind (1 : Int)).bind fun d0 => both ((s_l6Bytes.f k f_At (2 : Int)).bind fun d1 => gd (decide (ByteArray.size d0 + ByteArray.size d1 ≤ (140737488355328 : Nat))) (both ((s_l6Bytes.f k f_Epoch (2 : Int)).bind fun d2 => gd (decide ((d0 ++ d1).size + ByteArray.size d2 ≤ (140737488355328 : Nat))) (dup ((s_l6Bytes.f k (↑f_Body.size : Int) (1 : Int)).bind fun d3 => gd (decide ((d0 ++ d1 ++ d2).size + ByteArray.size d3 ≤ (140737488355328 : Nat))) (gd (decide ((d0 ++ d1 ++ d2 ++ d3).size + f_Body.size ≤ (140737488355328 : Nat))) (gd (decide ((d0 ++ d1 ++ d2 ++ d3 ++ f_Body).size + (strOfNums (List.replicate (IntKind.i64.wrap (IntKind.i64.wrap ((16 : Int) - (↑f_Body.size : Int)) + (2 : Int))).toNat (0 : Int))).size ≤ (140737488355328 : Nat))) ((s_l5On.f k (0 : Int) (d0 ++ d1 ++ d2 ++ d3 ++ f_Body ++ strOfNums (List.replicate (IntKind.i64.wrap (IntKind.i64.wrap ((16 : Int) - (↑f_Body.size : Int)) + (2 : Int))).toNat (0 : Int)))).bind fun d4 => (s_l6Low.f k d4).bind fun d5 => gd (decide ((d0 ++ d1 ++ d2 ++ d3 ++ f_Body ++ strOfNums (List.replicate (IntKind.i64.wrap (IntKind.i64.wrap ((16 : Int) - (↑f_Body.size : Int)) + (2 : Int))).toNat (0 : Int))).size + ByteArray.size d5 ≤ (140737488355328 : Nat))) (some (d0 ++ d1 ++ d2 ++ d3 ++ f_Body ++ strOfNums (List.replicate (IntKind.i64.wrap (IntKind.i64.wrap ((16 : Int) - (↑f_Body.size : Int)) + (2 : Int))).toNat (0 : Int)) ++ d5)))))))) ((s_l6Bytes.f k f_Epoch (2 : Int)).bind fun d2 => gd (decide ((d0 ++ d1).size + ByteArray.size d2 ≤ (140737488355328 : Nat))) ((s_l6Bytes.f k (↑f_Body.size : Int) (1 : Int)).bind fun d3 => gd (decide ((d0 ++ d1 ++ d2).size + ByteArray.size d3 ≤ (140737488355328 : Nat))) (gd (decide ((d0 ++ d1 ++ d2 ++ d3).size + f_Body.size ≤ (140737488355328 : Nat))) (gd (decide ((d0 ++ d1 ++ d2 ++ d3 ++ f_Body).size + (strOfNums (List.replicate (IntKind.i64.wrap (IntKind.i64.wrap ((16 : Int) - (↑f_Body.size : Int)) + (2 : Int))).toNat (0 : Int))).size ≤ (140737488355328 : Nat))) ((s_l5On.f k (0 : Int) (d0 ++ d1 ++ d2 ++ d3 ++ f_Body ++ strOfNums (List.replicate (IntKind.i64.wrap (IntKind.i64.wrap ((16 : Int) - (↑f_Body.size : Int)) + (2 : Int))).toNat (0 : Int)))).bind fun d4 => (s_l6Low.f k d4).bind fun d5 => gd (decide ((d0 ++ d1 ++ d2 ++ d3 ++ f_Body ++ strOfNums (List.replicate (IntKind.i64.wrap (IntKind.i64.wrap ((16 : Int) - (↑f_Body.size : Int)) + (2 : Int))).toNat (0 : Int))).size + ByteArray.size d5 ≤ (140737488355328 : Nat))) (some (d0 ++ d1 ++ d2 ++ d3 ++ f_Body ++ strOfNums (List.replicate (IntKind.i64.wrap (IntKind.i64.wrap ((16 : Int) - (↑f_Body.size : Int)) + (2 : Int))).toNat (0 : Int)) ++ d5))))))))) ((s_l6Bytes.f k f_At (2 : Int)).bind fun d1 => gd (decide (ByteArray.size d0 + ByteArray.size d1 ≤ (140737488355328 : Nat))) ((s_l6Bytes.f k f_Epoch (2 : Int)).bind fun d2 => gd (decide ((d0 ++ d1).size + ByteArray.size d2 ≤ (140737488355328 : Nat))) ((s_l6Bytes.f k (↑f_Body.size : Int) (1 : Int)).bind fun d3 => gd (decide ((d0 ++ d1 ++ d2).size + ByteArray.size d3 ≤ (140737488355328 : Nat))) (gd (decide ((d0 ++ d1 ++ d2 ++ d3).size + f_Body.size ≤ (140737488355328 : Nat))) (gd (decide ((d0 ++ d1 ++ d2 ++ d3 ++ f_Body).size + (strOfNums (List.replicate (IntKind.i64.wrap (IntKind.i64.wrap ((16 : Int) - (↑f_Body.size : Int)) + (2 : Int))).toNat (0 : Int))).size ≤ (140737488355328 : Nat))) ((s_l5On.f k (0 : Int) (d0 ++ d1 ++ d2 ++ d3 ++ f_Body ++ strOfNums (List.replicate (IntKind.i64.wrap (IntKind.i64.wrap ((16 : Int) - (↑f_Body.size : Int)) + (2 : Int))).toNat (0 : Int)))).bind fun d4 => (s_l6Low.f k d4).bind fun d5 => gd (decide ((d0 ++ d1 ++ d2 ++ d3 ++ f_Body ++ strOfNums (List.replicate (IntKind.i64.wrap (IntKind.i64.wrap ((16 : Int) - (↑f_Body.size : Int)) + (2 : Int))).toNat (0 : Int))).size + ByteArray.size d5 ≤ (140737488355328 : Nat))) (some (d0 ++ d1 ++ d2 ++ d3 ++ f_Body ++ strOfNums (List.replicate (IntKind.i64.wrap (IntKind.i64.wrap ((16 : Int) - (↑f_Body.size : Int)) + (2 : Int))).toNat (0 : Int)) ++ d5))))))))) ((s_l6Bytes.f k f_Kind (1 : Int)).bind fun d0 => (s_l6Bytes.f k f_At (2 : Int)).bind fun d1 => gd (decide (ByteArray.size d0 + ByteArray.size d1 ≤ (140737488355328 : Nat))) ((s_l6Bytes.f k f_Epoch (2 : Int)).bind fun d2 => gd (decide ((d0 ++ d1).size + ByteArray.size d2 ≤ (140737488355328 : Nat))) ((s_l6Bytes.f k (↑f_Body.size : Int) (1 : Int)).bind fun d3 => gd (decide ((d0 ++ d1 ++ d2).size + ByteArray.size d3 ≤ (140737488355328 : Nat))) (gd (decide ((d0 ++ d1 ++ d2 ++ d3).size + f_Body.size ≤ (140737488355328 : Nat))) (gd (decide ((d0 ++ d1 ++ d2 ++ d3 ++ f_Body).size + (strOfNums (List.replicate (IntKind.i64.wrap (IntKind.i64.wrap ((16 : Int) - (↑f_Body.size : Int)) + (2 : Int))).toNat (0 : Int))).size ≤ (140737488355328 : Nat))) ((s_l5On.f k (0 : Int) (d0 ++ d1 ++ d2 ++ d3 ++ f_Body ++ strOfNums (List.replicate (IntKind.i64.wrap (IntKind.i64.wrap ((16 : Int) - (↑f_Body.size : Int)) + (2 : Int))).toNat (0 : Int)))).bind fun d4 => (s_l6Low.f k d4).bind fun d5 => gd (decide ((d0 ++ d1 ++ d2 ++ d3 ++ f_Body ++ strOfNums (List.replicate (IntKind.i64.wrap (IntKind.i64.wrap ((16 : Int) - (↑f_Body.size : Int)) + (2 : Int))).toNat (0 : Int))).size + ByteArray.size d5 ≤ (140737488355328 : Nat))) (some (d0 ++ d1 ++ d2 ++ d3 ++ f_Body ++ strOfNums (List.replicate (IntKind.i64.wrap (IntKind.i64.wrap ((16 : Int) - (↑f_Body.size : Int)) + (2 : Int))).toNat (0 : Int)) ++ d5)))))))))) := (opq_eq _).trans (by kernel_rfl)
abbrev s_l7Held.s : Sig := ⟨65, [], [.val], [.agg [.row 9 .str, .row 9 .str, .row 4 .bool]], [.one (.own 3 (.int .i64))], [], [(0, [(3,true),(7,true),(8,false),(9,false)])]⟩
noncomputable def s_l7Held.C (k : Nat) : List (Nat × Ctr) := []
noncomputable def s_l7Held.f (k : Nat) (d_Plate : List ByteArray) (d_Held : List ByteArray) (d_Bad : List Bool) : Option (List Int) := opq (s_l7Held.s.run Try.prog (s_l7Held.C k) k (d_Plate, d_Held, d_Bad))
theorem s_l7Held.ok (k : Nat) : CtrOk Try.prog 65 (s_l7Held.s.ctr (fun x => s_l7Held.f k x.1 x.2.1 x.2.2)) := sig_ok s_l7Held.s .nil (by kernel_rfl) fun _ => opq_eq _
noncomputable def s_l7Held.l0 (k : Nat) (m : Nat) (t7 : List ByteArray) (t8 : Int) (t9 : Int) (h1 : List Int) : Option (List Int) := s_l7Held.s.head Try.prog (s_l7Held.C k) k 1 0 [] m [(3, AV.ref 1), (7, AV.row 9 Kind.str t7), (8, AV.int IntKind.i64 t8), (9, AV.int IntKind.i64 t9)] [Root.dead, Root.rows 3 (Kind.int IntKind.i64) h1]
theorem s_l7Held.l0_z (k : Nat) (t7 : List ByteArray) (t8 : Int) (t9 : Int) (h1 : List Int) : s_l7Held.l0 k 0 t7 t8 t9 h1 = none := by kernel_rfl
theorem s_l7Held.l0_s (k : Nat) (m : Nat) (t7 : List ByteArray) (t8 : Int) (t9 : Int) (h1 : List Int) : s_l7Held.l0 k (m + 1) t7 t8 t9 h1 =
 cn (decide (t9 < t8))
 (gd (inb t9 t7.length)
  (cn (!decide ((getAt ByteArray.empty t7 t9.toNat).toList = ByteArray.empty.toList))
   (gd (appOk (h1.length + [t9].length) (Try.prog.bytesOf (3 : Nat)))
    (s_l7Held.l0 k m t7 t8 (IntKind.i64.wrap (t9 + (1 : Int))) (h1 ++ [t9])))
   (s_l7Held.l0 k m t7 t8 (IntKind.i64.wrap (t9 + (1 : Int))) h1)))
 (some h1) := by kernel_rfl
theorem s_l7Held.f_eq (k : Nat) (d_Plate : List ByteArray) (d_Held : List ByteArray) (d_Bad : List Bool) : s_l7Held.f k d_Plate d_Held d_Bad =
 s_l7Held.l0 k k d_Held ((↑d_Held.length : Int)) ((0 : Int)) ([]) := (opq_eq _).trans (by kernel_rfl)
abbrev s_l1Has.s : Sig := ⟨103, [], [.val, .val], [.one (.row 3 (.int .i64)), .one (.int .i64)], [.one .bool], [], [(0, [(1,false),(7,true),(8,false),(9,false)])]⟩
noncomputable def s_l1Has.C (k : Nat) : List (Nat × Ctr) := []
noncomputable def s_l1Has.f (k : Nat) (l : List Int) (n : Int) : Option Bool := opq (s_l1Has.s.run Try.prog (s_l1Has.C k) k (l, n))
theorem s_l1Has.ok (k : Nat) : CtrOk Try.prog 103 (s_l1Has.s.ctr (fun x => s_l1Has.f k x.1 x.2)) := sig_ok s_l1Has.s .nil (by kernel_rfl) fun _ => opq_eq _
noncomputable def s_l1Has.l0 (k : Nat) (m : Nat) (n1 : Int) (t7 : List Int) (t8 : Int) (t9 : Int) : Option Bool := s_l1Has.s.head Try.prog (s_l1Has.C k) k 1 0 [] m [(1, AV.int IntKind.i64 n1), (7, AV.row 3 (Kind.int IntKind.i64) t7), (8, AV.int IntKind.i64 t8), (9, AV.int IntKind.i64 t9)] [Root.dead]
theorem s_l1Has.l0_z (k : Nat) (n1 : Int) (t7 : List Int) (t8 : Int) (t9 : Int) : s_l1Has.l0 k 0 n1 t7 t8 t9 = none := by kernel_rfl
theorem s_l1Has.l0_s (k : Nat) (m : Nat) (n1 : Int) (t7 : List Int) (t8 : Int) (t9 : Int) : s_l1Has.l0 k (m + 1) n1 t7 t8 t9 =
 cn (decide (t9 < t8))
 (gd (inb t9 t7.length)
  (cn (decide (getAt (0 : Int) t7 t9.toNat = n1))
   (some true)
   (s_l1Has.l0 k m n1 t7 t8 (IntKind.i64.wrap (t9 + (1 : Int))))))
 (some false) := by kernel_rfl
theorem s_l1Has.f_eq (k : Nat) (l : List Int) (n : Int) : s_l1Has.f k l n =
 s_l1Has.l0 k k n l ((↑l.length : Int)) ((0 : Int)) := (opq_eq _).trans (by kernel_rfl)
abbrev s_l7Kept.s : Sig := ⟨119, [], [.val, .val], [.agg [.row 9 .str, .row 9 .str, .row 4 .bool], .one (.row 3 (.int .i64))], [.one .bool], [], [(0, [(1,false),(5,true),(10,true),(11,false),(12,false)])]⟩
noncomputable def s_l7Kept.C (k : Nat) : List (Nat × Ctr) := [(103, s_l1Has.s.ctr (fun x => s_l1Has.f k x.1 x.2)), (65, s_l7Held.s.ctr (fun x => s_l7Held.f k x.1 x.2.1 x.2.2))]
noncomputable def s_l7Kept.f (k : Nat) (d_Plate : List ByteArray) (d_Held : List ByteArray) (d_Bad : List Bool) (kept : List Int) : Option Bool := opq (s_l7Kept.s.run Try.prog (s_l7Kept.C k) k ((d_Plate, d_Held, d_Bad), kept))
theorem s_l7Kept.ok (k : Nat) : CtrOk Try.prog 119 (s_l7Kept.s.ctr (fun x => s_l7Kept.f k x.1.1 x.1.2.1 x.1.2.2 x.2)) := sig_ok s_l7Kept.s (.cons (s_l1Has.ok k) (.cons (s_l7Held.ok k) .nil)) (by kernel_rfl) fun _ => opq_eq _
noncomputable def s_l7Kept.l0 (k : Nat) (m : Nat) (kept1 : List Int) (t10 : List Int) (t11 : Int) (t12 : Int) (h1 : List Int) : Option Bool := s_l7Kept.s.head Try.prog (s_l7Kept.C k) k 1 0 [] m [(1, AV.row 3 (Kind.int IntKind.i64) kept1), (5, AV.ref 1), (10, AV.row 3 (Kind.int IntKind.i64) t10), (11, AV.int IntKind.i64 t11), (12, AV.int IntKind.i64 t12)] [Root.dead, Root.rows 3 (Kind.int IntKind.i64) h1]
theorem s_l7Kept.l0_z (k : Nat) (kept1 : List Int) (t10 : List Int) (t11 : Int) (t12 : Int) (h1 : List Int) : s_l7Kept.l0 k 0 kept1 t10 t11 t12 h1 = none := by kernel_rfl
theorem s_l7Kept.l0_s (k : Nat) (m : Nat) (kept1 : List Int) (t10 : List Int) (t11 : Int) (t12 : Int) (h1 : List Int) : s_l7Kept.l0 k (m + 1) kept1 t10 t11 t12 h1 =
 cn (decide (t12 < t11))
 (gd (inb t12 t10.length)
  ((s_l1Has.f k h1 (getAt (0 : Int) t10 t12.toNat)).bind fun d1 =>
   cn (!d1)
   (some false)
   (cn (decide ((0 : Int) < t12))
    (gd (inb (IntKind.i64.wrap (t12 - (1 : Int))) kept1.length)
     (cn (decide (getAt (0 : Int) t10 t12.toNat ≤ getAt (0 : Int) kept1 (IntKind.i64.wrap (t12 - (1 : Int))).toNat))
      (some false)
      (s_l7Kept.l0 k m kept1 t10 t11 (IntKind.i64.wrap (t12 + (1 : Int))) h1)))
    (s_l7Kept.l0 k m kept1 t10 t11 (IntKind.i64.wrap (t12 + (1 : Int))) h1))))
 (some true) := by kernel_rfl
theorem s_l7Kept.f_eq (k : Nat) (d_Plate : List ByteArray) (d_Held : List ByteArray) (d_Bad : List Bool) (kept : List Int) : s_l7Kept.f k d_Plate d_Held d_Bad kept =
 (s_l7Held.f k d_Plate d_Held d_Bad).bind fun d0 =>
 s_l7Kept.l0 k k kept kept ((↑kept.length : Int)) ((0 : Int)) d0 := (opq_eq _).trans (by kernel_rfl)
abbrev s_l7Crash.s : Sig := ⟨64, [.agg 3, .one], [.chg, .chg, .chg, .val], [.one (.row 9 .str), .one (.row 9 .str), .one (.row 4 .bool), .one (.row 3 (.int .i64))], [.agg [.arg 1, .arg 2, .arg 3]], [.rows 9 .str, .rows 9 .str, .rows 4 .bool], [(0, [(1,false),(2,false),(4,false),(8,true),(9,false),(10,false)])]⟩
noncomputable def s_l7Crash.C (k : Nat) : List (Nat × Ctr) := [(103, s_l1Has.s.ctr (fun x => s_l1Has.f k x.1 x.2))]
noncomputable def s_l7Crash.f (k : Nat) (d_Plate : List ByteArray) (d_Held : List ByteArray) (d_Bad : List Bool) (kept : List Int) : Option ((Unit × Unit × Unit) × List ByteArray × List ByteArray × List Bool) := opq (s_l7Crash.s.run Try.prog (s_l7Crash.C k) k (d_Plate, d_Held, d_Bad, kept))
theorem s_l7Crash.ok (k : Nat) : CtrOk Try.prog 64 (s_l7Crash.s.ctr (fun x => s_l7Crash.f k x.1 x.2.1 x.2.2.1 x.2.2.2)) := sig_ok s_l7Crash.s (.cons (s_l1Has.ok k) .nil) (by kernel_rfl) fun _ => opq_eq _
noncomputable def s_l7Crash.l0 (k : Nat) (m : Nat) (kept1 : List Int) (t9 : Int) (t10 : Int) (h1 : List ByteArray) (h2 : List ByteArray) (h3 : List Bool) : Option ((Unit × Unit × Unit) × List ByteArray × List ByteArray × List Bool) := s_l7Crash.s.head Try.prog (s_l7Crash.C k) k 4 0 [] m [(1, AV.row 3 (Kind.int IntKind.i64) kept1), (2, AV.ptr 4 0 0), (4, AV.ptr 5 0 0), (8, AV.ref 2), (9, AV.int IntKind.i64 t9), (10, AV.int IntKind.i64 t10)] [Root.dead, Root.rows 9 Kind.str h1, Root.rows 9 Kind.str h2, Root.rows 4 Kind.bool h3, Root.box 38 [AV.ref 1, AV.ref 2, AV.ref 3], Root.box 38 [AV.nil 9 Kind.str, AV.nil 9 Kind.str, AV.nil 4 Kind.bool]]
theorem s_l7Crash.l0_z (k : Nat) (kept1 : List Int) (t9 : Int) (t10 : Int) (h1 : List ByteArray) (h2 : List ByteArray) (h3 : List Bool) : s_l7Crash.l0 k 0 kept1 t9 t10 h1 h2 h3 = none := by kernel_rfl
theorem s_l7Crash.l0_s (k : Nat) (m : Nat) (kept1 : List Int) (t9 : Int) (t10 : Int) (h1 : List ByteArray) (h2 : List ByteArray) (h3 : List Bool) : s_l7Crash.l0 k (m + 1) kept1 t9 t10 h1 h2 h3 =
 cn (decide (t10 < t9))
 (gd (inb t10 h2.length)
  ((s_l1Has.f k kept1 t10).bind fun d0 =>
   cn d0
   (gd (inb t10 h1.length)
    (gd (inb t10 h2.length)
     (s_l7Crash.l0 k m kept1 t9 (IntKind.i64.wrap (t10 + (1 : Int))) (h1.set t10.toNat (getAt ByteArray.empty h2 t10.toNat)) (h2.set t10.toNat ByteArray.empty) h3)))
   (gd (inb t10 h2.length)
    (s_l7Crash.l0 k m kept1 t9 (IntKind.i64.wrap (t10 + (1 : Int))) h1 (h2.set t10.toNat ByteArray.empty) h3))))
 (some ((((), (), ()), h1, h2, h3))) := by kernel_rfl
theorem s_l7Crash.f_eq (k : Nat) (d_Plate : List ByteArray) (d_Held : List ByteArray) (d_Bad : List Bool) (kept : List Int) : s_l7Crash.f k d_Plate d_Held d_Bad kept =
 s_l7Crash.l0 k k kept ((↑d_Held.length : Int)) ((0 : Int)) d_Plate d_Held d_Bad := (opq_eq _).trans (by kernel_rfl)
abbrev s_l7There.s : Sig := ⟨124, [], [.val, .val], [.agg [.row 9 .str, .row 9 .str, .row 4 .bool], .one (.int .i64)], [.one .bool], [], []⟩
noncomputable def s_l7There.C (k : Nat) : List (Nat × Ctr) := []
noncomputable def s_l7There.f (k : Nat) (d_Plate : List ByteArray) (d_Held : List ByteArray) (d_Bad : List Bool) (at_ : Int) : Option Bool := opq (s_l7There.s.run Try.prog (s_l7There.C k) k ((d_Plate, d_Held, d_Bad), at_))
theorem s_l7There.ok (k : Nat) : CtrOk Try.prog 124 (s_l7There.s.ctr (fun x => s_l7There.f k x.1.1 x.1.2.1 x.1.2.2 x.2)) := sig_ok s_l7There.s .nil (by kernel_rfl) fun _ => opq_eq _
theorem s_l7There.f_eq (k : Nat) (d_Plate : List ByteArray) (d_Held : List ByteArray) (d_Bad : List Bool) (at_ : Int) : s_l7There.f k d_Plate d_Held d_Bad at_ =
 cn (decide ((0 : Int) ≤ at_))
 (some (decide (at_ < (↑d_Plate.length : Int))))
 (some false) := (opq_eq _).trans (by kernel_rfl)
abbrev s_l7Rot.s : Sig := ⟨125, [], [.val, .val], [.one .str, .one .str], [.one .str], [], [(0, [(1,false),(5,true),(6,false)])]⟩
noncomputable def s_l7Rot.C (k : Nat) : List (Nat × Ctr) := []
noncomputable def s_l7Rot.f (k : Nat) (s : ByteArray) (mask : ByteArray) : Option ByteArray := opq (s_l7Rot.s.run Try.prog (s_l7Rot.C k) k (s, mask))
theorem s_l7Rot.ok (k : Nat) : CtrOk Try.prog 125 (s_l7Rot.s.ctr (fun x => s_l7Rot.f k x.1 x.2)) := sig_ok s_l7Rot.s .nil (by kernel_rfl) fun _ => opq_eq _
noncomputable def s_l7Rot.l0 (k : Nat) (m : Nat) (mask1 : ByteArray) (i6 : Int) (h1 : List Int) : Option ByteArray := s_l7Rot.s.head Try.prog (s_l7Rot.C k) k 1 0 [] m [(1, AV.str mask1), (5, AV.ref 1), (6, AV.int IntKind.i64 i6)] [Root.dead, Root.rows 5 (Kind.int IntKind.u8) h1]
theorem s_l7Rot.l0_z (k : Nat) (mask1 : ByteArray) (i6 : Int) (h1 : List Int) : s_l7Rot.l0 k 0 mask1 i6 h1 = none := by kernel_rfl
theorem s_l7Rot.l0_s (k : Nat) (m : Nat) (mask1 : ByteArray) (i6 : Int) (h1 : List Int) : s_l7Rot.l0 k (m + 1) mask1 i6 h1 =
 cn (decide (i6 < (↑mask1.size : Int)))
 (gd (inb i6 h1.length)
  (gd (inb i6 mask1.size)
   (gd (inb i6 h1.length)
    (s_l7Rot.l0 k m mask1 (IntKind.i64.wrap (i6 + (1 : Int))) (h1.set i6.toNat (IntKind.u8.wrap (↑(BitVec.ofInt (8 : Nat) (getAt (0 : Int) h1 i6.toNat) ^^^ BitVec.ofInt (8 : Nat) (↑(mask1.data.getD i6.toNat (0 : UInt8)).toNat : Int)).toNat : Int)))))))
 (some (strOfNums h1)) := by kernel_rfl
theorem s_l7Rot.f_eq (k : Nat) (s : ByteArray) (mask : ByteArray) : s_l7Rot.f k s mask =
 gd (decide (s.size ≤ (70368744177664 : Nat)))
 (s_l7Rot.l0 k k mask ((0 : Int)) (bytesL s)) := (opq_eq _).trans (by kernel_rfl)
abbrev s_l7Step.s : Sig := ⟨100, [.agg 3, .one], [.chg, .chg, .chg, .val], [.one (.row 9 .str), .one (.row 9 .str), .one (.row 4 .bool), .agg [.int .i64, .int .i64, .str, .row 3 (.int .i64)]], [.agg [.arg 1, .arg 2, .arg 3], .one .bool], [.rows 9 .str, .rows 9 .str, .rows 4 .bool], []⟩
noncomputable def s_l7Step.C (k : Nat) : List (Nat × Ctr) := [(119, s_l7Kept.s.ctr (fun x => s_l7Kept.f k x.1.1 x.1.2.1 x.1.2.2 x.2)), (124, s_l7There.s.ctr (fun x => s_l7There.f k x.1.1 x.1.2.1 x.1.2.2 x.2)), (125, s_l7Rot.s.ctr (fun x => s_l7Rot.f k x.1 x.2)), (64, s_l7Crash.s.ctr (fun x => s_l7Crash.f k x.1 x.2.1 x.2.2.1 x.2.2.2)), (65, s_l7Held.s.ctr (fun x => s_l7Held.f k x.1 x.2.1 x.2.2)), (79, s_l1In.s.ctr (fun x => s_l1In.f k x.1 x.2.1 x.2.2))]
noncomputable def s_l7Step.f (k : Nat) (d_Plate : List ByteArray) (d_Held : List ByteArray) (d_Bad : List Bool) (x_Kind : Int) (x_At : Int) (x_Text : ByteArray) (x_Kept : List Int) : Option (((Unit × Unit × Unit) × Bool) × List ByteArray × List ByteArray × List Bool) := opq (s_l7Step.s.run Try.prog (s_l7Step.C k) k (d_Plate, d_Held, d_Bad, (x_Kind, x_At, x_Text, x_Kept)))
theorem s_l7Step.ok (k : Nat) : CtrOk Try.prog 100 (s_l7Step.s.ctr (fun x => s_l7Step.f k x.1 x.2.1 x.2.2.1 x.2.2.2.1 x.2.2.2.2.1 x.2.2.2.2.2.1 x.2.2.2.2.2.2)) := sig_ok s_l7Step.s (.cons (s_l7Kept.ok k) (.cons (s_l7There.ok k) (.cons (s_l7Rot.ok k) (.cons (s_l7Crash.ok k) (.cons (s_l7Held.ok k) (.cons (s_l1In.ok k) .nil)))))) (by kernel_rfl) fun _ => opq_eq _
theorem s_l7Step.f_eq (k : Nat) (d_Plate : List ByteArray) (d_Held : List ByteArray) (d_Bad : List Bool) (x_Kind : Int) (x_At : Int) (x_Text : ByteArray) (x_Kept : List Int) : s_l7Step.f k d_Plate d_Held d_Bad x_Kind x_At x_Text x_Kept =

 let z2 : Option (((Unit × Unit × Unit) × Bool) × List ByteArray × List ByteArray × List Bool) := (s_l7Kept.f k d_Plate d_Held d_Bad x_Kept).bind fun d0 => cn (!d0) (some ((((() , () , ()) , false) , d_Plate, d_Held, d_Bad))) (cn (decide (x_Kind = (2 : Int))) ((s_l7Held.f k d_Plate d_Held d_Bad).bind fun d1 => (s_l7Crash.f k d_Plate d_Held d_Bad d1).bind fun d2 => some ((((() , () , ()) , true) , d2.snd.fst, d2.snd.snd.fst, d2.snd.snd.snd))) ((s_l7Crash.f k d_Plate d_Held d_Bad x_Kept).bind fun d1 => some ((((() , () , ()) , true) , d1.snd.fst, d1.snd.snd.fst, d1.snd.snd.snd))));
 let z5 : Option (((Unit × Unit × Unit) × Bool) × List ByteArray × List ByteArray × List Bool) := cn (!decide (x_At = (0 : Int))) (some ((((() , () , ()) , false) , d_Plate, d_Held, d_Bad))) (cn (!decide (x_Text.toList = ByteArray.empty.toList)) (some ((((() , () , ()) , false) , d_Plate, d_Held, d_Bad))) (cn (decide (x_Kind = (2 : Int))) (cn (decide ((0 : Int) < (↑x_Kept.length : Int))) (some ((((() , () , ()) , false) , d_Plate, d_Held, d_Bad))) z2) z2));
 let z12 : Option (((Unit × Unit × Unit) × Bool) × List ByteArray × List ByteArray × List Bool) := cn (decide (x_Kind = (6 : Int))) (cn (decide (x_Text.toList = ByteArray.empty.toList)) (gd (inb x_At d_Bad.length) (cn (getAt false d_Bad x_At.toNat) (gd (inb x_At d_Bad.length) (gd (inb x_At d_Plate.length) (some ((((() , () , ()) , true) , d_Plate.set x_At.toNat ByteArray.empty, d_Held, d_Bad.set x_At.toNat false))))) (some ((((() , () , ()) , false) , d_Plate, d_Held, d_Bad))))) (some ((((() , () , ()) , false) , d_Plate, d_Held, d_Bad)))) (some ((((() , () , ()) , false) , d_Plate, d_Held, d_Bad)));
 let z13 : Option (((Unit × Unit × Unit) × Bool) × List ByteArray × List ByteArray × List Bool) := cn (decide (x_Text.toList = ByteArray.empty.toList)) (gd (inb x_At d_Bad.length) (gd (inb x_At d_Held.length) (some ((((() , () , ()) , true) , d_Plate, d_Held.set x_At.toNat ByteArray.empty, d_Bad.set x_At.toNat true))))) z12;
 let z23 : Option (((Unit × Unit × Unit) × Bool) × List ByteArray × List ByteArray × List Bool) := cn (decide (x_Kind = (4 : Int))) (gd (inb x_At d_Held.length) (cn (decide ((getAt ByteArray.empty d_Held x_At.toNat).toList = ByteArray.empty.toList)) (gd (inb x_At d_Plate.length) (cn (!decide ((getAt ByteArray.empty d_Plate x_At.toNat).toList = ByteArray.empty.toList)) (gd (inb x_At d_Plate.length) ((s_l1In.f k (↑x_Text.size : Int) (1 : Int) (↑ (getAt ByteArray.empty d_Plate x_At.toNat).size : Int)).bind fun d1 => cn d1 (gd (inb x_At d_Plate.length) ((s_l7Rot.f k (getAt ByteArray.empty d_Plate x_At.toNat) x_Text).bind fun d2 => gd (inb x_At d_Plate.length) (some ((((() , () , ()) , true) , d_Plate.set x_At.toNat d2, d_Held, d_Bad))))) (cn (decide (x_Kind = (5 : Int))) z13 z12))) (cn (decide (x_Kind = (5 : Int))) z13 z12))) (cn (decide (x_Kind = (5 : Int))) z13 z12))) (cn (decide (x_Kind = (5 : Int))) z13 z12);
 cn (decide (x_Kind = (2 : Int))) z5 (cn (decide (x_Kind = (3 : Int))) z5 ((s_l7There.f k d_Plate d_Held d_Bad x_At).bind fun d0 => cn (!d0) (some ((((() , () , ()) , false) , d_Plate, d_Held, d_Bad))) (cn (decide ((0 : Int) < (↑x_Kept.length : Int))) (some ((((() , () , ()) , false) , d_Plate, d_Held, d_Bad))) (cn (decide (x_Kind = (1 : Int))) (gd (inb x_At d_Bad.length) (cn (!getAt false d_Bad x_At.toNat) ((s_l1In.f k (↑x_Text.size : Int) (1 : Int) (28 : Int)).bind fun d1 => cn d1 (gd (inb x_At d_Held.length) (some ((((() , () , ()) , true) , d_Plate, d_Held.set x_At.toNat x_Text, d_Bad)))) (cn (decide (x_Kind = (4 : Int))) (gd (inb x_At d_Held.length) (cn (decide ((getAt ByteArray.empty d_Held x_At.toNat).toList = ByteArray.empty.toList)) (gd (inb x_At d_Plate.length) (cn (!decide ((getAt ByteArray.empty d_Plate x_At.toNat).toList = ByteArray.empty.toList)) (gd (inb x_At d_Plate.length) ((s_l1In.f k (↑x_Text.size : Int) (1 : Int) (↑ (getAt ByteArray.empty d_Plate x_At.toNat).size : Int)).bind fun d2 => cn d2 (gd (inb x_At d_Plate.length) ((s_l7Rot.f k (getAt ByteArray.empty d_Plate x_At.toNat) x_Text).bind fun d3 => gd (inb x_At d_Plate.length) (some ((((() , () , ()) , true) , d_Plate.set x_At.toNat d3, d_Held, d_Bad))))) (cn (decide (x_Kind = (5 : Int))) z13 z12))) (cn (decide (x_Kind = (5 : Int))) z13 z12))) (cn (decide (x_Kind = (5 : Int))) z13 z12))) (cn (decide (x_Kind = (5 : Int))) z13 z12))) z23)) z23)))) := (opq_eq _).trans (by kernel_rfl)
abbrev s_l15Write.s : Sig := ⟨62, [.agg 3, .one, .one, .one, .one], [.chg, .chg, .chg, .val, .val, .val, .val], [.one (.row 9 .str), .one (.row 9 .str), .one (.row 4 .bool), .one (.int .i64), .one (.int .i64), .one (.int .i64), .one .str], [.agg [.arg 1, .arg 2, .arg 3]], [.rows 9 .str, .rows 9 .str, .rows 4 .bool], []⟩
noncomputable def s_l15Write.C (k : Nat) : List (Nat × Ctr) := [(100, s_l7Step.s.ctr (fun x => s_l7Step.f k x.1 x.2.1 x.2.2.1 x.2.2.2.1 x.2.2.2.2.1 x.2.2.2.2.2.1 x.2.2.2.2.2.2)), (101, s_l6Frame.s.ctr (fun x => s_l6Frame.f k x.1 x.2.1 x.2.2.1 x.2.2.2))]
noncomputable def s_l15Write.f (k : Nat) (d_Plate : List ByteArray) (d_Held : List ByteArray) (d_Bad : List Bool) (kind : Int) (at_ : Int) (epoch : Int) (body : ByteArray) : Option ((Unit × Unit × Unit) × List ByteArray × List ByteArray × List Bool) := opq (s_l15Write.s.run Try.prog (s_l15Write.C k) k (d_Plate, d_Held, d_Bad, kind, at_, epoch, body))
theorem s_l15Write.ok (k : Nat) : CtrOk Try.prog 62 (s_l15Write.s.ctr (fun x => s_l15Write.f k x.1 x.2.1 x.2.2.1 x.2.2.2.1 x.2.2.2.2.1 x.2.2.2.2.2.1 x.2.2.2.2.2.2)) := sig_ok s_l15Write.s (.cons (s_l7Step.ok k) (.cons (s_l6Frame.ok k) .nil)) (by kernel_rfl) fun _ => opq_eq _
theorem s_l15Write.f_eq (k : Nat) (d_Plate : List ByteArray) (d_Held : List ByteArray) (d_Bad : List Bool) (kind : Int) (at_ : Int) (epoch : Int) (body : ByteArray) : s_l15Write.f k d_Plate d_Held d_Bad kind at_ epoch body =
 both
 ((s_l6Frame.f k kind at_ epoch body).bind fun d0 =>
  dup
  ((s_l7Step.f k d_Plate d_Held d_Bad (1 : Int) at_ d0 []).bind fun d1 =>
   some ((((), (), ()), d1.snd.fst, d1.snd.snd.fst, d1.snd.snd.snd))))
 ((s_l6Frame.f k kind at_ epoch body).bind fun d0 =>
  (s_l7Step.f k d_Plate d_Held d_Bad (1 : Int) at_ d0 []).bind fun d1 =>
  some ((((), (), ()), d1.snd.fst, d1.snd.snd.fst, d1.snd.snd.snd))) := (opq_eq _).trans (by kernel_rfl)
abbrev s_l15Put.s : Sig := ⟨63, [.agg 3, .one, .one], [.chg, .chg, .chg, .val, .val], [.one (.row 9 .str), .one (.row 9 .str), .one (.row 4 .bool), .one (.int .i64), .one (.row 3 (.int .i64))], [.agg [.arg 1, .arg 2, .arg 3]], [.rows 9 .str, .rows 9 .str, .rows 4 .bool], [(0, [(1,false),(3,false),(6,false),(7,false),(13,true),(14,false),(15,false)])]⟩
noncomputable def s_l15Put.C (k : Nat) : List (Nat × Ctr) := [(102, s_l15Half.s.ctr (fun x => s_l15Half.f k x)), (55, s_l15Bytes.s.ctr (fun x => s_l15Bytes.f k x)), (62, s_l15Write.s.ctr (fun x => s_l15Write.f k x.1 x.2.1 x.2.2.1 x.2.2.2.1 x.2.2.2.2.1 x.2.2.2.2.2.1 x.2.2.2.2.2.2))]
noncomputable def s_l15Put.f (k : Nat) (d_Plate : List ByteArray) (d_Held : List ByteArray) (d_Bad : List Bool) (epoch : Int) (values : List Int) : Option ((Unit × Unit × Unit) × List ByteArray × List ByteArray × List Bool) := opq (s_l15Put.s.run Try.prog (s_l15Put.C k) k (d_Plate, d_Held, d_Bad, epoch, values))
theorem s_l15Put.ok (k : Nat) : CtrOk Try.prog 63 (s_l15Put.s.ctr (fun x => s_l15Put.f k x.1 x.2.1 x.2.2.1 x.2.2.2.1 x.2.2.2.2)) := sig_ok s_l15Put.s (.cons (s_l15Half.ok k) (.cons (s_l15Bytes.ok k) (.cons (s_l15Write.ok k) .nil))) (by kernel_rfl) fun _ => opq_eq _
noncomputable def s_l15Put.l0 (k : Nat) (m : Nat) (epoch1 : Int) (at7 : Int) (t14 : Int) (t15 : Int) (h1 : List ByteArray) (h2 : List ByteArray) (h3 : List Bool) (h6 : List ByteArray) : Option ((Unit × Unit × Unit) × List ByteArray × List ByteArray × List Bool) := s_l15Put.s.head Try.prog (s_l15Put.C k) k 4 0 [] m [(1, AV.int IntKind.i64 epoch1), (3, AV.ptr 4 0 0), (6, AV.ptr 5 0 0), (7, AV.int IntKind.i64 at7), (13, AV.ref 6), (14, AV.int IntKind.i64 t14), (15, AV.int IntKind.i64 t15)] [Root.dead, Root.rows 9 Kind.str h1, Root.rows 9 Kind.str h2, Root.rows 4 Kind.bool h3, Root.box 38 [AV.ref 1, AV.ref 2, AV.ref 3], Root.box 38 [AV.nil 9 Kind.str, AV.nil 9 Kind.str, AV.nil 4 Kind.bool], Root.rows 9 Kind.str h6]
theorem s_l15Put.l0_z (k : Nat) (epoch1 : Int) (at7 : Int) (t14 : Int) (t15 : Int) (h1 : List ByteArray) (h2 : List ByteArray) (h3 : List Bool) (h6 : List ByteArray) : s_l15Put.l0 k 0 epoch1 at7 t14 t15 h1 h2 h3 h6 = none := by kernel_rfl
theorem s_l15Put.l0_s (k : Nat) (m : Nat) (epoch1 : Int) (at7 : Int) (t14 : Int) (t15 : Int) (h1 : List ByteArray) (h2 : List ByteArray) (h3 : List Bool) (h6 : List ByteArray) : s_l15Put.l0 k (m + 1) epoch1 at7 t14 t15 h1 h2 h3 h6 =
 cn (decide (t15 < t14))
 (gd (inb t15 h6.length)
  ((s_l15Write.f k h1 h2 h3 (3 : Int) (IntKind.i64.wrap (at7 + t15)) epoch1 (getAt ByteArray.empty h6 t15.toNat)).bind fun d2 =>
   s_l15Put.l0 k m epoch1 at7 t14 (IntKind.i64.wrap (t15 + (1 : Int))) d2.snd.fst d2.snd.snd.fst d2.snd.snd.snd h6))
 (some ((((), (), ()), h1, h2, h3))) := by kernel_rfl
theorem s_l15Put.f_eq (k : Nat) (d_Plate : List ByteArray) (d_Held : List ByteArray) (d_Bad : List Bool) (epoch : Int) (values : List Int) : s_l15Put.f k d_Plate d_Held d_Bad epoch values =
 (s_l15Half.f k epoch).bind fun d0 =>
 (s_l15Bytes.f k values).bind fun d1 =>
 s_l15Put.l0 k k epoch d0 ((↑(List.length d1) : Int)) ((0 : Int)) d_Plate d_Held d_Bad d1 := (opq_eq _).trans (by kernel_rfl)
abbrev s_NewJournal.s : Sig := ⟨23, [], [], [], [.agg [.own 9 .str, .own 9 .str, .own 4 .bool, .int .i64, .int .i64, .own 3 (.int .i64), .own 3 (.int .i64)]], [], []⟩
noncomputable def s_NewJournal.C (k : Nat) : List (Nat × Ctr) := [(61, s_NewDisk.s.ctr (fun x => s_NewDisk.f k x)), (62, s_l15Write.s.ctr (fun x => s_l15Write.f k x.1 x.2.1 x.2.2.1 x.2.2.2.1 x.2.2.2.2.1 x.2.2.2.2.2.1 x.2.2.2.2.2.2)), (63, s_l15Put.s.ctr (fun x => s_l15Put.f k x.1 x.2.1 x.2.2.1 x.2.2.2.1 x.2.2.2.2)), (64, s_l7Crash.s.ctr (fun x => s_l7Crash.f k x.1 x.2.1 x.2.2.1 x.2.2.2)), (65, s_l7Held.s.ctr (fun x => s_l7Held.f k x.1 x.2.1 x.2.2))]
noncomputable def s_NewJournal.f (k : Nat)  : Option (List ByteArray × List ByteArray × List Bool × Int × Int × List Int × List Int) := opq (s_NewJournal.s.run Try.prog (s_NewJournal.C k) k ())
theorem s_NewJournal.ok (k : Nat) : CtrOk Try.prog 23 (s_NewJournal.s.ctr (fun _ => s_NewJournal.f k)) := sig_ok s_NewJournal.s (.cons (s_NewDisk.ok k) (.cons (s_l15Write.ok k) (.cons (s_l15Put.ok k) (.cons (s_l7Crash.ok k) (.cons (s_l7Held.ok k) .nil))))) (by kernel_rfl) fun _ => opq_eq _
theorem s_NewJournal.f_eq (k : Nat) : s_NewJournal.f k =
 (s_NewDisk.f k (5 : Int)).bind fun d0 =>
 (s_l15Put.f k d0.fst.fst d0.fst.snd.fst d0.fst.snd.snd (0 : Int) (List.replicate (6 : Nat) (0 : Int))).bind fun d1 =>
 (s_l15Write.f k d1.snd.fst d1.snd.snd.fst d1.snd.snd.snd (4 : Int) (0 : Int) (0 : Int) ByteArray.empty).bind fun d2 =>
 (s_l7Held.f k d2.snd.fst d2.snd.snd.fst d2.snd.snd.snd).bind fun d3 =>
 (s_l7Crash.f k d2.snd.fst d2.snd.snd.fst d2.snd.snd.snd d3).bind fun d4 =>
 some ((d4.snd.fst, d4.snd.snd.fst, d4.snd.snd.snd, (0 : Int), (0 : Int), List.replicate (6 : Nat) (0 : Int), [])) := (opq_eq _).trans (by kernel_rfl)
abbrev s_l7Own.s : Sig := ⟨80, [], [.val], [.agg [.row 9 .str, .row 9 .str, .row 4 .bool]], [.agg [.own 9 .str, .own 9 .str, .own 4 .bool]], [], []⟩
noncomputable def s_l7Own.C (k : Nat) : List (Nat × Ctr) := []
noncomputable def s_l7Own.f (k : Nat) (d_Plate : List ByteArray) (d_Held : List ByteArray) (d_Bad : List Bool) : Option (List ByteArray × List ByteArray × List Bool) := opq (s_l7Own.s.run Try.prog (s_l7Own.C k) k (d_Plate, d_Held, d_Bad))
theorem s_l7Own.ok (k : Nat) : CtrOk Try.prog 80 (s_l7Own.s.ctr (fun x => s_l7Own.f k x.1 x.2.1 x.2.2)) := sig_ok s_l7Own.s .nil (by kernel_rfl) fun _ => opq_eq _
theorem s_l7Own.f_eq (k : Nat) (d_Plate : List ByteArray) (d_Held : List ByteArray) (d_Bad : List Bool) : s_l7Own.f k d_Plate d_Held d_Bad =
 both
 (both
  (gd (appOk ((0 : Nat) + d_Plate.length) (Try.prog.bytesOf (9 : Nat)))
   (both
    (dup
     (gd (appOk ((0 : Nat) + d_Held.length) (Try.prog.bytesOf (9 : Nat)))
      (gd (appOk ((0 : Nat) + d_Bad.length) (Try.prog.bytesOf (4 : Nat)))
       (some (([] ++ d_Plate, [] ++ d_Held, [] ++ d_Bad))))))
    (gd (appOk ((0 : Nat) + d_Held.length) (Try.prog.bytesOf (9 : Nat)))
     (gd (appOk ((0 : Nat) + d_Bad.length) (Try.prog.bytesOf (4 : Nat)))
      (some (([] ++ d_Plate, [] ++ d_Held, [] ++ d_Bad)))))))
  (both
   (both
    (gd (appOk ((0 : Nat) + d_Plate.length) (Try.prog.bytesOf (9 : Nat)))
     (dup
      (gd (appOk ((0 : Nat) + d_Held.length) (Try.prog.bytesOf (9 : Nat)))
       (gd (appOk ((0 : Nat) + d_Bad.length) (Try.prog.bytesOf (4 : Nat)))
        (some (([] ++ d_Plate, [] ++ d_Held, [] ++ d_Bad)))))))
    (gd (appOk ((0 : Nat) + d_Plate.length) (Try.prog.bytesOf (9 : Nat)))
     (gd (appOk ((0 : Nat) + d_Held.length) (Try.prog.bytesOf (9 : Nat)))
      (gd (appOk ((0 : Nat) + d_Bad.length) (Try.prog.bytesOf (4 : Nat)))
       (some (([] ++ d_Plate, [] ++ d_Held, [] ++ d_Bad)))))))
   (dup
    (gd (appOk ((0 : Nat) + d_Plate.length) (Try.prog.bytesOf (9 : Nat)))
     (gd (appOk ((0 : Nat) + d_Held.length) (Try.prog.bytesOf (9 : Nat)))
      (gd (appOk ((0 : Nat) + d_Bad.length) (Try.prog.bytesOf (4 : Nat)))
       (some (([] ++ d_Plate, [] ++ d_Held, [] ++ d_Bad)))))))))
 (both
  (both
   (both
    (gd (appOk ((0 : Nat) + d_Plate.length) (Try.prog.bytesOf (9 : Nat)))
     (dup
      (gd (appOk ((0 : Nat) + d_Held.length) (Try.prog.bytesOf (9 : Nat)))
       (gd (appOk ((0 : Nat) + d_Bad.length) (Try.prog.bytesOf (4 : Nat)))
        (some (([] ++ d_Plate, [] ++ d_Held, [] ++ d_Bad)))))))
    (gd (appOk ((0 : Nat) + d_Plate.length) (Try.prog.bytesOf (9 : Nat)))
     (gd (appOk ((0 : Nat) + d_Held.length) (Try.prog.bytesOf (9 : Nat)))
      (gd (appOk ((0 : Nat) + d_Bad.length) (Try.prog.bytesOf (4 : Nat)))
       (some (([] ++ d_Plate, [] ++ d_Held, [] ++ d_Bad)))))))
   (gd (appOk ((0 : Nat) + d_Plate.length) (Try.prog.bytesOf (9 : Nat)))
    (gd (appOk ((0 : Nat) + d_Held.length) (Try.prog.bytesOf (9 : Nat)))
     (gd (appOk ((0 : Nat) + d_Bad.length) (Try.prog.bytesOf (4 : Nat)))
      (some (([] ++ d_Plate, [] ++ d_Held, [] ++ d_Bad)))))))
  (both
   (dup
    (gd (appOk ((0 : Nat) + d_Plate.length) (Try.prog.bytesOf (9 : Nat)))
     (gd (appOk ((0 : Nat) + d_Held.length) (Try.prog.bytesOf (9 : Nat)))
      (gd (appOk ((0 : Nat) + d_Bad.length) (Try.prog.bytesOf (4 : Nat)))
       (some (([] ++ d_Plate, [] ++ d_Held, [] ++ d_Bad)))))))
   (gd (appOk ((0 : Nat) + d_Plate.length) (Try.prog.bytesOf (9 : Nat)))
    (gd (appOk ((0 : Nat) + d_Held.length) (Try.prog.bytesOf (9 : Nat)))
     (gd (appOk ((0 : Nat) + d_Bad.length) (Try.prog.bytesOf (4 : Nat)))
      (some (([] ++ d_Plate, [] ++ d_Held, [] ++ d_Bad)))))))) := (opq_eq _).trans (by kernel_rfl)
abbrev s_l15Own.s : Sig := ⟨89, [], [.val], [.agg [.row 9 .str, .row 9 .str, .row 4 .bool, .int .i64, .int .i64, .row 3 (.int .i64), .row 3 (.int .i64)]], [.agg [.own 9 .str, .own 9 .str, .own 4 .bool, .int .i64, .int .i64, .own 3 (.int .i64), .own 3 (.int .i64)]], [], []⟩
noncomputable def s_l15Own.C (k : Nat) : List (Nat × Ctr) := [(80, s_l7Own.s.ctr (fun x => s_l7Own.f k x.1 x.2.1 x.2.2))]
noncomputable def s_l15Own.f (k : Nat) (j_Disk_Plate : List ByteArray) (j_Disk_Held : List ByteArray) (j_Disk_Bad : List Bool) (j_Epoch : Int) (j_Phase : Int) (j_Acked : List Int) (j_Coming : List Int) : Option (List ByteArray × List ByteArray × List Bool × Int × Int × List Int × List Int) := opq (s_l15Own.s.run Try.prog (s_l15Own.C k) k (j_Disk_Plate, j_Disk_Held, j_Disk_Bad, j_Epoch, j_Phase, j_Acked, j_Coming))
theorem s_l15Own.ok (k : Nat) : CtrOk Try.prog 89 (s_l15Own.s.ctr (fun x => s_l15Own.f k x.1 x.2.1 x.2.2.1 x.2.2.2.1 x.2.2.2.2.1 x.2.2.2.2.2.1 x.2.2.2.2.2.2)) := sig_ok s_l15Own.s (.cons (s_l7Own.ok k) .nil) (by kernel_rfl) fun _ => opq_eq _
theorem s_l15Own.f_eq (k : Nat) (j_Disk_Plate : List ByteArray) (j_Disk_Held : List ByteArray) (j_Disk_Bad : List Bool) (j_Epoch : Int) (j_Phase : Int) (j_Acked : List Int) (j_Coming : List Int) : s_l15Own.f k j_Disk_Plate j_Disk_Held j_Disk_Bad j_Epoch j_Phase j_Acked j_Coming =
 both
 ((s_l7Own.f k j_Disk_Plate j_Disk_Held j_Disk_Bad).bind fun d0 =>
  both
  (dup
   (gd (appOk ((0 : Nat) + j_Acked.length) (Try.prog.bytesOf (3 : Nat)))
    (gd (appOk ((0 : Nat) + j_Coming.length) (Try.prog.bytesOf (3 : Nat)))
     (some ((d0.fst, d0.snd.fst, d0.snd.snd, j_Epoch, j_Phase, [] ++ j_Acked, [] ++ j_Coming))))))
  (gd (appOk ((0 : Nat) + j_Acked.length) (Try.prog.bytesOf (3 : Nat)))
   (gd (appOk ((0 : Nat) + j_Coming.length) (Try.prog.bytesOf (3 : Nat)))
    (some ((d0.fst, d0.snd.fst, d0.snd.snd, j_Epoch, j_Phase, [] ++ j_Acked, [] ++ j_Coming))))))
 (both
  (both
   ((s_l7Own.f k j_Disk_Plate j_Disk_Held j_Disk_Bad).bind fun d0 =>
    dup
    (gd (appOk ((0 : Nat) + j_Acked.length) (Try.prog.bytesOf (3 : Nat)))
     (gd (appOk ((0 : Nat) + j_Coming.length) (Try.prog.bytesOf (3 : Nat)))
      (some ((d0.fst, d0.snd.fst, d0.snd.snd, j_Epoch, j_Phase, [] ++ j_Acked, [] ++ j_Coming))))))
   ((s_l7Own.f k j_Disk_Plate j_Disk_Held j_Disk_Bad).bind fun d0 =>
    gd (appOk ((0 : Nat) + j_Acked.length) (Try.prog.bytesOf (3 : Nat)))
    (gd (appOk ((0 : Nat) + j_Coming.length) (Try.prog.bytesOf (3 : Nat)))
     (some ((d0.fst, d0.snd.fst, d0.snd.snd, j_Epoch, j_Phase, [] ++ j_Acked, [] ++ j_Coming))))))
  (dup
   ((s_l7Own.f k j_Disk_Plate j_Disk_Held j_Disk_Bad).bind fun d0 =>
    gd (appOk ((0 : Nat) + j_Acked.length) (Try.prog.bytesOf (3 : Nat)))
    (gd (appOk ((0 : Nat) + j_Coming.length) (Try.prog.bytesOf (3 : Nat)))
     (some ((d0.fst, d0.snd.fst, d0.snd.snd, j_Epoch, j_Phase, [] ++ j_Acked, [] ++ j_Coming))))))) := (opq_eq _).trans (by kernel_rfl)
abbrev s_l15State.s : Sig := ⟨54, [], [.val], [.one (.row 3 (.int .i64))], [.one .bool], [], [(0, [(0,false),(5,true),(6,false),(7,false)])]⟩
noncomputable def s_l15State.C (k : Nat) : List (Nat × Ctr) := [(79, s_l1In.s.ctr (fun x => s_l1In.f k x.1 x.2.1 x.2.2))]
noncomputable def s_l15State.f (k : Nat) (values : List Int) : Option Bool := opq (s_l15State.s.run Try.prog (s_l15State.C k) k values)
theorem s_l15State.ok (k : Nat) : CtrOk Try.prog 54 (s_l15State.s.ctr (fun x => s_l15State.f k x)) := sig_ok s_l15State.s (.cons (s_l1In.ok k) .nil) (by kernel_rfl) fun _ => opq_eq _
noncomputable def s_l15State.l0 (k : Nat) (m : Nat) (values0 : List Int) (t5 : List Int) (t6 : Int) (t7 : Int) : Option Bool := s_l15State.s.head Try.prog (s_l15State.C k) k 1 0 [] m [(0, AV.row 3 (Kind.int IntKind.i64) values0), (5, AV.row 3 (Kind.int IntKind.i64) t5), (6, AV.int IntKind.i64 t6), (7, AV.int IntKind.i64 t7)] [Root.dead]
theorem s_l15State.l0_z (k : Nat) (values0 : List Int) (t5 : List Int) (t6 : Int) (t7 : Int) : s_l15State.l0 k 0 values0 t5 t6 t7 = none := by kernel_rfl
theorem s_l15State.l0_s (k : Nat) (m : Nat) (values0 : List Int) (t5 : List Int) (t6 : Int) (t7 : Int) : s_l15State.l0 k (m + 1) values0 t5 t6 t7 =
 cn (decide (t7 < t6))
 (gd (inb t7 t5.length)
  ((s_l1In.f k (getAt (0 : Int) t5 t7.toNat) (0 : Int) (65535 : Int)).bind fun d0 =>
   cn (!d0)
   (some false)
   (s_l15State.l0 k m values0 t5 t6 (IntKind.i64.wrap (t7 + (1 : Int))))))
 (some (decide ((↑values0.length : Int) = (6 : Int)))) := by kernel_rfl
theorem s_l15State.f_eq (k : Nat) (values : List Int) : s_l15State.f k values =
 s_l15State.l0 k k values values ((↑values.length : Int)) ((0 : Int)) := (opq_eq _).trans (by kernel_rfl)
abbrev s_l15Sync.s : Sig := ⟨118, [.agg 7], [.give, .give, .give, .val, .val, .give, .give], [.one (.row 9 .str), .one (.row 9 .str), .one (.row 4 .bool), .one (.int .i64), .one (.int .i64), .one (.row 3 (.int .i64)), .one (.row 3 (.int .i64))], [.agg [.own 9 .str, .own 9 .str, .own 4 .bool, .int .i64, .int .i64, .own 3 (.int .i64), .own 3 (.int .i64)]], [], []⟩
noncomputable def s_l15Sync.C (k : Nat) : List (Nat × Ctr) := [(64, s_l7Crash.s.ctr (fun x => s_l7Crash.f k x.1 x.2.1 x.2.2.1 x.2.2.2)), (65, s_l7Held.s.ctr (fun x => s_l7Held.f k x.1 x.2.1 x.2.2))]
noncomputable def s_l15Sync.f (k : Nat) (j_Disk_Plate : List ByteArray) (j_Disk_Held : List ByteArray) (j_Disk_Bad : List Bool) (j_Epoch : Int) (j_Phase : Int) (j_Acked : List Int) (j_Coming : List Int) : Option (List ByteArray × List ByteArray × List Bool × Int × Int × List Int × List Int) := opq (s_l15Sync.s.run Try.prog (s_l15Sync.C k) k (j_Disk_Plate, j_Disk_Held, j_Disk_Bad, j_Epoch, j_Phase, j_Acked, j_Coming))
theorem s_l15Sync.ok (k : Nat) : CtrOk Try.prog 118 (s_l15Sync.s.ctr (fun x => s_l15Sync.f k x.1 x.2.1 x.2.2.1 x.2.2.2.1 x.2.2.2.2.1 x.2.2.2.2.2.1 x.2.2.2.2.2.2)) := sig_ok s_l15Sync.s (.cons (s_l7Crash.ok k) (.cons (s_l7Held.ok k) .nil)) (by kernel_rfl) fun _ => opq_eq _
theorem s_l15Sync.f_eq (k : Nat) (j_Disk_Plate : List ByteArray) (j_Disk_Held : List ByteArray) (j_Disk_Bad : List Bool) (j_Epoch : Int) (j_Phase : Int) (j_Acked : List Int) (j_Coming : List Int) : s_l15Sync.f k j_Disk_Plate j_Disk_Held j_Disk_Bad j_Epoch j_Phase j_Acked j_Coming =
 (s_l7Held.f k j_Disk_Plate j_Disk_Held j_Disk_Bad).bind fun d0 =>
 (s_l7Crash.f k j_Disk_Plate j_Disk_Held j_Disk_Bad d0).bind fun d1 =>
 cn (decide (j_Phase = (1 : Int)))
 (some ((d1.snd.fst, d1.snd.snd.fst, d1.snd.snd.snd, j_Epoch, (2 : Int), j_Acked, j_Coming)))
 (cn (decide (j_Phase = (3 : Int)))
  (some ((d1.snd.fst, d1.snd.snd.fst, d1.snd.snd.snd, IntKind.i64.wrap (j_Epoch + (1 : Int)), (0 : Int), j_Coming, [])))
  (some ((d1.snd.fst, d1.snd.snd.fst, d1.snd.snd.snd, j_Epoch, j_Phase, j_Acked, j_Coming)))) := (opq_eq _).trans (by kernel_rfl)
abbrev s_l7Read.s : Sig := ⟨105, [], [.val, .val], [.agg [.row 9 .str, .row 9 .str, .row 4 .bool], .one (.int .i64)], [.one .str, .one .bool], [], []⟩
noncomputable def s_l7Read.C (k : Nat) : List (Nat × Ctr) := []
noncomputable def s_l7Read.f (k : Nat) (d_Plate : List ByteArray) (d_Held : List ByteArray) (d_Bad : List Bool) (at_ : Int) : Option (ByteArray × Bool) := opq (s_l7Read.s.run Try.prog (s_l7Read.C k) k ((d_Plate, d_Held, d_Bad), at_))
theorem s_l7Read.ok (k : Nat) : CtrOk Try.prog 105 (s_l7Read.s.ctr (fun x => s_l7Read.f k x.1.1 x.1.2.1 x.1.2.2 x.2)) := sig_ok s_l7Read.s .nil (by kernel_rfl) fun _ => opq_eq _
theorem s_l7Read.f_eq (k : Nat) (d_Plate : List ByteArray) (d_Held : List ByteArray) (d_Bad : List Bool) (at_ : Int) : s_l7Read.f k d_Plate d_Held d_Bad at_ =
 gd (inb at_ d_Bad.length)
 (cn (getAt false d_Bad at_.toNat)
  (some ((ByteArray.empty, false)))
  (gd (inb at_ d_Held.length)
   (cn (!decide ((getAt ByteArray.empty d_Held at_.toNat).toList = ByteArray.empty.toList))
    (gd (inb at_ d_Held.length)
     (some ((getAt ByteArray.empty d_Held at_.toNat, true))))
    (gd (inb at_ d_Plate.length)
     (some ((getAt ByteArray.empty d_Plate at_.toNat, true))))))) := (opq_eq _).trans (by kernel_rfl)
abbrev s_l6Value.s : Sig := ⟨59, [], [.val], [.one .str], [.one (.int .i64)], [], [(0, [(0,false),(3,false),(4,false)])]⟩
noncomputable def s_l6Value.C (k : Nat) : List (Nat × Ctr) := []
noncomputable def s_l6Value.f (k : Nat) (s : ByteArray) : Option Int := opq (s_l6Value.s.run Try.prog (s_l6Value.C k) k s)
theorem s_l6Value.ok (k : Nat) : CtrOk Try.prog 59 (s_l6Value.s.ctr (fun x => s_l6Value.f k x)) := sig_ok s_l6Value.s .nil (by kernel_rfl) fun _ => opq_eq _
noncomputable def s_l6Value.l0 (k : Nat) (m : Nat) (s0 : ByteArray) (n3 : Int) (i4 : Int) : Option Int := s_l6Value.s.head Try.prog (s_l6Value.C k) k 1 0 [] m [(0, AV.str s0), (3, AV.int IntKind.i64 n3), (4, AV.int IntKind.i64 i4)] [Root.dead]
theorem s_l6Value.l0_z (k : Nat) (s0 : ByteArray) (n3 : Int) (i4 : Int) : s_l6Value.l0 k 0 s0 n3 i4 = none := by kernel_rfl
theorem s_l6Value.l0_s (k : Nat) (m : Nat) (s0 : ByteArray) (n3 : Int) (i4 : Int) : s_l6Value.l0 k (m + 1) s0 n3 i4 =
 cn (decide (i4 < (↑s0.size : Int)))
 (gd (inb i4 s0.size)
  (s_l6Value.l0 k m s0 (IntKind.i64.wrap (↑(BitVec.ofInt (64 : Nat) (IntKind.i64.wrap (n3 * (2 : Int) ^ (8 : Nat))) ||| BitVec.ofInt (64 : Nat) (IntKind.i64.wrap (↑(s0.data.getD i4.toNat (0 : UInt8)).toNat : Int))).toNat : Int)) (IntKind.i64.wrap (i4 + (1 : Int)))))
 (some n3) := by kernel_rfl
theorem s_l6Value.f_eq (k : Nat) (s : ByteArray) : s_l6Value.f k s =
 s_l6Value.l0 k k s ((0 : Int)) ((0 : Int)) := (opq_eq _).trans (by kernel_rfl)
abbrev s_GoodFrame.s : Sig := ⟨138, [], [.val], [.agg [.int .i64, .int .i64, .int .i64, .str]], [.one .bool], [], []⟩
noncomputable def s_GoodFrame.C (k : Nat) : List (Nat × Ctr) := [(79, s_l1In.s.ctr (fun x => s_l1In.f k x.1 x.2.1 x.2.2))]
noncomputable def s_GoodFrame.f (k : Nat) (f_Kind : Int) (f_At : Int) (f_Epoch : Int) (f_Body : ByteArray) : Option Bool := opq (s_GoodFrame.s.run Try.prog (s_GoodFrame.C k) k (f_Kind, f_At, f_Epoch, f_Body))
theorem s_GoodFrame.ok (k : Nat) : CtrOk Try.prog 138 (s_GoodFrame.s.ctr (fun x => s_GoodFrame.f k x.1 x.2.1 x.2.2.1 x.2.2.2)) := sig_ok s_GoodFrame.s (.cons (s_l1In.ok k) .nil) (by kernel_rfl) fun _ => opq_eq _
theorem s_GoodFrame.f_eq (k : Nat) (f_Kind : Int) (f_At : Int) (f_Epoch : Int) (f_Body : ByteArray) : s_GoodFrame.f k f_Kind f_At f_Epoch f_Body =
 (s_l1In.f k f_Kind (1 : Int) (255 : Int)).bind fun d0 =>
 cn d0
 ((s_l1In.f k f_At (0 : Int) (60000 : Int)).bind fun d1 =>
  cn d1
  ((s_l1In.f k f_Epoch (0 : Int) (60000 : Int)).bind fun d2 =>
   cn d2
   (some (decide ((↑f_Body.size : Int) ≤ (16 : Int))))
   (some false))
  (some false))
 (some false) := (opq_eq _).trans (by kernel_rfl)
abbrev s_ReadFrame.s : Sig := ⟨129, [], [.val], [.one .str], [.agg [.int .i64, .int .i64, .int .i64, .str], .one (.int .i64), .one .bool], [], []⟩
noncomputable def s_ReadFrame.C (k : Nat) : List (Nat × Ctr) := [(101, s_l6Frame.s.ctr (fun x => s_l6Frame.f k x.1 x.2.1 x.2.2.1 x.2.2.2)), (126, s_l6Low.s.ctr (fun x => s_l6Low.f k x)), (127, s_l5On.s.ctr (fun x => s_l5On.f k x.1 x.2)), (138, s_GoodFrame.s.ctr (fun x => s_GoodFrame.f k x.1 x.2.1 x.2.2.1 x.2.2.2)), (59, s_l6Value.s.ctr (fun x => s_l6Value.f k x))]
noncomputable def s_ReadFrame.f (k : Nat) (s : ByteArray) : Option ((Int × Int × Int × ByteArray) × Int × Bool) := opq (s_ReadFrame.s.run Try.prog (s_ReadFrame.C k) k s)
theorem s_ReadFrame.ok (k : Nat) : CtrOk Try.prog 129 (s_ReadFrame.s.ctr (fun x => s_ReadFrame.f k x)) := sig_ok s_ReadFrame.s (.cons (s_l6Frame.ok k) (.cons (s_l6Low.ok k) (.cons (s_l5On.ok k) (.cons (s_GoodFrame.ok k) (.cons (s_l6Value.ok k) .nil))))) (by kernel_rfl) fun _ => opq_eq _
theorem s_ReadFrame.f_eq (k : Nat) (s : ByteArray) : s_ReadFrame.f k s =
 cn (!decide ((↑s.size : Int) = (28 : Int)))
 (some ((((0 : Int), (0 : Int), (0 : Int), ByteArray.empty), (1 : Int), false)))
 (gd (true && decide ((24 : Int) ≤ (↑s.size : Int)))
  (gd (true && decide ((24 : Int) ≤ (↑s.size : Int)))
   ((s_l5On.f k (0 : Int) (s.extract (0 : Nat) (24 : Nat))).bind fun d0 =>
    (s_l6Low.f k d0).bind fun d1 =>
    cn (!decide (ByteArray.toList d1 = (s.extract (24 : Nat) s.size).toList))
    (some ((((0 : Int), (0 : Int), (0 : Int), ByteArray.empty), (2 : Int), false)))
    (gd (true && decide ((1 : Int) ≤ (↑s.size : Int)))
     (gd (true && (true && decide ((3 : Int) ≤ (↑s.size : Int))))
      (gd (true && (true && decide ((5 : Int) ≤ (↑s.size : Int))))
       (both
        ((s_l6Value.f k (s.extract (0 : Nat) (1 : Nat))).bind fun d2 =>
         both
         ((s_l6Value.f k (s.extract (1 : Nat) (3 : Nat))).bind fun d3 =>
          dup
          ((s_l6Value.f k (s.extract (3 : Nat) (5 : Nat))).bind fun d4 =>
           gd (inb (5 : Int) s.size)
           (cn (decide ((16 : Int) < IntKind.i64.wrap (↑(s.data.getD (5 : Nat) (0 : UInt8)).toNat : Int)))
            (some ((((0 : Int), (0 : Int), (0 : Int), ByteArray.empty), (3 : Int), false)))
            (gd (true && (decide ((6 : Int) ≤ IntKind.i64.wrap ((6 : Int) + IntKind.i64.wrap (↑(s.data.getD (5 : Nat) (0 : UInt8)).toNat : Int))) && decide (IntKind.i64.wrap ((6 : Int) + IntKind.i64.wrap (↑(s.data.getD (5 : Nat) (0 : UInt8)).toNat : Int)) ≤ (↑s.size : Int))))
             ((s_GoodFrame.f k d2 d3 d4 (s.extract (6 : Nat) (IntKind.i64.wrap ((6 : Int) + IntKind.i64.wrap (↑(s.data.getD (5 : Nat) (0 : UInt8)).toNat : Int))).toNat)).bind fun d5 =>
              cn (!d5)
              (some ((((0 : Int), (0 : Int), (0 : Int), ByteArray.empty), (3 : Int), false)))
              ((s_l6Frame.f k d2 d3 d4 (s.extract (6 : Nat) (IntKind.i64.wrap ((6 : Int) + IntKind.i64.wrap (↑(s.data.getD (5 : Nat) (0 : UInt8)).toNat : Int))).toNat)).bind fun d6 =>
               cn (!decide (ByteArray.toList d6 = s.toList))
               (some ((((0 : Int), (0 : Int), (0 : Int), ByteArray.empty), (3 : Int), false)))
               (some (((d2, d3, d4, s.extract (6 : Nat) (IntKind.i64.wrap ((6 : Int) + IntKind.i64.wrap (↑(s.data.getD (5 : Nat) (0 : UInt8)).toNat : Int))).toNat), (0 : Int), true)))))))))
         ((s_l6Value.f k (s.extract (1 : Nat) (3 : Nat))).bind fun d3 =>
          (s_l6Value.f k (s.extract (3 : Nat) (5 : Nat))).bind fun d4 =>
          gd (inb (5 : Int) s.size)
          (cn (decide ((16 : Int) < IntKind.i64.wrap (↑(s.data.getD (5 : Nat) (0 : UInt8)).toNat : Int)))
           (some ((((0 : Int), (0 : Int), (0 : Int), ByteArray.empty), (3 : Int), false)))
           (gd (true && (decide ((6 : Int) ≤ IntKind.i64.wrap ((6 : Int) + IntKind.i64.wrap (↑(s.data.getD (5 : Nat) (0 : UInt8)).toNat : Int))) && decide (IntKind.i64.wrap ((6 : Int) + IntKind.i64.wrap (↑(s.data.getD (5 : Nat) (0 : UInt8)).toNat : Int)) ≤ (↑s.size : Int))))
            ((s_GoodFrame.f k d2 d3 d4 (s.extract (6 : Nat) (IntKind.i64.wrap ((6 : Int) + IntKind.i64.wrap (↑(s.data.getD (5 : Nat) (0 : UInt8)).toNat : Int))).toNat)).bind fun d5 =>
             cn (!d5)
             (some ((((0 : Int), (0 : Int), (0 : Int), ByteArray.empty), (3 : Int), false)))
             ((s_l6Frame.f k d2 d3 d4 (s.extract (6 : Nat) (IntKind.i64.wrap ((6 : Int) + IntKind.i64.wrap (↑(s.data.getD (5 : Nat) (0 : UInt8)).toNat : Int))).toNat)).bind fun d6 =>
              cn (!decide (ByteArray.toList d6 = s.toList))
              (some ((((0 : Int), (0 : Int), (0 : Int), ByteArray.empty), (3 : Int), false)))
              (some (((d2, d3, d4, s.extract (6 : Nat) (IntKind.i64.wrap ((6 : Int) + IntKind.i64.wrap (↑(s.data.getD (5 : Nat) (0 : UInt8)).toNat : Int))).toNat), (0 : Int), true)))))))))
        ((s_l6Value.f k (s.extract (0 : Nat) (1 : Nat))).bind fun d2 =>
         (s_l6Value.f k (s.extract (1 : Nat) (3 : Nat))).bind fun d3 =>
         (s_l6Value.f k (s.extract (3 : Nat) (5 : Nat))).bind fun d4 =>
         gd (inb (5 : Int) s.size)
         (cn (decide ((16 : Int) < IntKind.i64.wrap (↑(s.data.getD (5 : Nat) (0 : UInt8)).toNat : Int)))
          (some ((((0 : Int), (0 : Int), (0 : Int), ByteArray.empty), (3 : Int), false)))
          (gd (true && (decide ((6 : Int) ≤ IntKind.i64.wrap ((6 : Int) + IntKind.i64.wrap (↑(s.data.getD (5 : Nat) (0 : UInt8)).toNat : Int))) && decide (IntKind.i64.wrap ((6 : Int) + IntKind.i64.wrap (↑(s.data.getD (5 : Nat) (0 : UInt8)).toNat : Int)) ≤ (↑s.size : Int))))
           ((s_GoodFrame.f k d2 d3 d4 (s.extract (6 : Nat) (IntKind.i64.wrap ((6 : Int) + IntKind.i64.wrap (↑(s.data.getD (5 : Nat) (0 : UInt8)).toNat : Int))).toNat)).bind fun d5 =>
            cn (!d5)
            (some ((((0 : Int), (0 : Int), (0 : Int), ByteArray.empty), (3 : Int), false)))
            ((s_l6Frame.f k d2 d3 d4 (s.extract (6 : Nat) (IntKind.i64.wrap ((6 : Int) + IntKind.i64.wrap (↑(s.data.getD (5 : Nat) (0 : UInt8)).toNat : Int))).toNat)).bind fun d6 =>
             cn (!decide (ByteArray.toList d6 = s.toList))
             (some ((((0 : Int), (0 : Int), (0 : Int), ByteArray.empty), (3 : Int), false)))
             (some (((d2, d3, d4, s.extract (6 : Nat) (IntKind.i64.wrap ((6 : Int) + IntKind.i64.wrap (↑(s.data.getD (5 : Nat) (0 : UInt8)).toNat : Int))).toNat), (0 : Int), true))))))))))))))) := (opq_eq _).trans (by kernel_rfl)
abbrev s_CheckFrame.s : Sig := ⟨106, [], [.val, .val, .val, .val], [.one .str, .one (.int .i64), .one (.int .i64), .one (.int .i64)], [.agg [.int .i64, .int .i64, .int .i64, .str], .one (.int .i64), .one .bool], [], []⟩
noncomputable def s_CheckFrame.C (k : Nat) : List (Nat × Ctr) := [(129, s_ReadFrame.s.ctr (fun x => s_ReadFrame.f k x))]
noncomputable def s_CheckFrame.f (k : Nat) (s : ByteArray) (kind : Int) (at_ : Int) (least : Int) : Option ((Int × Int × Int × ByteArray) × Int × Bool) := opq (s_CheckFrame.s.run Try.prog (s_CheckFrame.C k) k (s, kind, at_, least))
theorem s_CheckFrame.ok (k : Nat) : CtrOk Try.prog 106 (s_CheckFrame.s.ctr (fun x => s_CheckFrame.f k x.1 x.2.1 x.2.2.1 x.2.2.2)) := sig_ok s_CheckFrame.s (.cons (s_ReadFrame.ok k) .nil) (by kernel_rfl) fun _ => opq_eq _
theorem s_CheckFrame.f_eq (k : Nat) (s : ByteArray) (kind : Int) (at_ : Int) (least : Int) : s_CheckFrame.f k s kind at_ least =
 (s_ReadFrame.f k s).bind fun d0 =>
 cn (!d0.snd.snd)
 (some ((((0 : Int), (0 : Int), (0 : Int), ByteArray.empty), d0.snd.fst, false)))
 (cn (!decide (d0.fst.fst = kind))
  (some ((((0 : Int), (0 : Int), (0 : Int), ByteArray.empty), (3 : Int), false)))
  (cn (!decide (d0.fst.snd.fst = at_))
   (some ((((0 : Int), (0 : Int), (0 : Int), ByteArray.empty), (4 : Int), false)))
   (cn (decide (d0.fst.snd.snd.fst < least))
    (some ((((0 : Int), (0 : Int), (0 : Int), ByteArray.empty), (5 : Int), false)))
    (some (((d0.fst.fst, d0.fst.snd.fst, d0.fst.snd.snd.fst, d0.fst.snd.snd.snd), (0 : Int), true)))))) := (opq_eq _).trans (by kernel_rfl)
abbrev s_StateFrom.s : Sig := ⟨19, [], [.val], [.one (.row 9 .str)], [.one (.own 3 (.int .i64)), .one .bool], [], [(0, [(4,false),(5,true),(6,false)])]⟩
noncomputable def s_StateFrom.C (k : Nat) : List (Nat × Ctr) := [(59, s_l6Value.s.ctr (fun x => s_l6Value.f k x))]
noncomputable def s_StateFrom.f (k : Nat) (l : List ByteArray) : Option (List Int × Bool) := opq (s_StateFrom.s.run Try.prog (s_StateFrom.C k) k l)
theorem s_StateFrom.ok (k : Nat) : CtrOk Try.prog 19 (s_StateFrom.s.ctr (fun x => s_StateFrom.f k x)) := sig_ok s_StateFrom.s (.cons (s_l6Value.ok k) .nil) (by kernel_rfl) fun _ => opq_eq _
noncomputable def s_StateFrom.l0 (k : Nat) (m : Nat) (s4 : ByteArray) (k6 : Int) (h1 : List Int) : Option (List Int × Bool) := s_StateFrom.s.head Try.prog (s_StateFrom.C k) k 1 0 [] m [(4, AV.str s4), (5, AV.ref 1), (6, AV.int IntKind.i64 k6)] [Root.dead, Root.rows 3 (Kind.int IntKind.i64) h1]
theorem s_StateFrom.l0_z (k : Nat) (s4 : ByteArray) (k6 : Int) (h1 : List Int) : s_StateFrom.l0 k 0 s4 k6 h1 = none := by kernel_rfl
theorem s_StateFrom.l0_s (k : Nat) (m : Nat) (s4 : ByteArray) (k6 : Int) (h1 : List Int) : s_StateFrom.l0 k (m + 1) s4 k6 h1 =
 cn (decide (k6 < (6 : Int)))
 (gd (decide ((0 : Int) ≤ IntKind.i64.wrap ((2 : Int) * k6)) && (decide (IntKind.i64.wrap ((2 : Int) * k6) ≤ IntKind.i64.wrap (IntKind.i64.wrap ((2 : Int) * k6) + (2 : Int))) && decide (IntKind.i64.wrap (IntKind.i64.wrap ((2 : Int) * k6) + (2 : Int)) ≤ (↑s4.size : Int))))
  ((s_l6Value.f k (s4.extract (IntKind.i64.wrap ((2 : Int) * k6)).toNat (IntKind.i64.wrap (IntKind.i64.wrap ((2 : Int) * k6) + (2 : Int))).toNat)).bind fun d0 =>
   gd (appOk (h1.length + [d0].length) (Try.prog.bytesOf (3 : Nat)))
   (s_StateFrom.l0 k m s4 (IntKind.i64.wrap (k6 + (1 : Int))) (h1 ++ [d0]))))
 (some ((h1, true))) := by kernel_rfl
theorem s_StateFrom.f_eq (k : Nat) (l : List ByteArray) : s_StateFrom.f k l =
 cn (!decide ((↑l.length : Int) = (2 : Int)))
 (some (([], false)))
 (gd (inb (0 : Int) l.length)
  (cn (!decide ((↑(getAt ByteArray.empty l (0 : Nat)).size : Int) = (6 : Int)))
   (some (([], false)))
   (gd (inb (1 : Int) l.length)
    (cn (!decide ((↑(getAt ByteArray.empty l (1 : Nat)).size : Int) = (6 : Int)))
     (some (([], false)))
     (gd (inb (0 : Int) l.length)
      (gd (inb (1 : Int) l.length)
       (gd (decide ((getAt ByteArray.empty l (0 : Nat)).size + (getAt ByteArray.empty l (1 : Nat)).size ≤ (140737488355328 : Nat)))
        (s_StateFrom.l0 k k (getAt ByteArray.empty l (0 : Nat) ++ getAt ByteArray.empty l (1 : Nat)) ((0 : Int)) ([]))))))))) := (opq_eq _).trans (by kernel_rfl)
abbrev s_l15Recover.s : Sig := ⟨72, [], [.val], [.agg [.row 9 .str, .row 9 .str, .row 4 .bool]], [.one (.own 3 (.int .i64)), .one (.int .i64)], [], [(0, [(1,false),(6,false),(9,false),(10,true),(11,false)])]⟩
noncomputable def s_l15Recover.C (k : Nat) : List (Nat × Ctr) := [(102, s_l15Half.s.ctr (fun x => s_l15Half.f k x)), (105, s_l7Read.s.ctr (fun x => s_l7Read.f k x.1.1 x.1.2.1 x.1.2.2 x.2)), (106, s_CheckFrame.s.ctr (fun x => s_CheckFrame.f k x.1 x.2.1 x.2.2.1 x.2.2.2)), (19, s_StateFrom.s.ctr (fun x => s_StateFrom.f k x))]
noncomputable def s_l15Recover.f (k : Nat) (d_Plate : List ByteArray) (d_Held : List ByteArray) (d_Bad : List Bool) : Option (List Int × Int) := opq (s_l15Recover.s.run Try.prog (s_l15Recover.C k) k (d_Plate, d_Held, d_Bad))
theorem s_l15Recover.ok (k : Nat) : CtrOk Try.prog 72 (s_l15Recover.s.ctr (fun x => s_l15Recover.f k x.1 x.2.1 x.2.2)) := sig_ok s_l15Recover.s (.cons (s_l15Half.ok k) (.cons (s_l7Read.ok k) (.cons (s_CheckFrame.ok k) (.cons (s_StateFrom.ok k) .nil)))) (by kernel_rfl) fun _ => opq_eq _
noncomputable def s_l15Recover.l0 (k : Nat) (m : Nat) (at9 : Int) (k11 : Int) (h1 : List ByteArray) (h1_ : List ByteArray) (h1__ : List Bool) (h2 : Int) (h2_ : Int) (h2__ : Int) (h2___ : ByteArray) (h3 : List ByteArray) : Option (List Int × Int) := s_l15Recover.s.head Try.prog (s_l15Recover.C k) k 1 0 [] m [(1, AV.ptr 1 0 0), (6, AV.ptr 2 0 0), (9, AV.int IntKind.i64 at9), (10, AV.ref 3), (11, AV.int IntKind.i64 k11)] [Root.dead, Root.box 38 [AV.row 9 Kind.str h1, AV.row 9 Kind.str h1_, AV.row 4 Kind.bool h1__], Root.box 98 [AV.int IntKind.i64 h2, AV.int IntKind.i64 h2_, AV.int IntKind.i64 h2__, AV.str h2___], Root.rows 9 Kind.str h3]
theorem s_l15Recover.l0_z (k : Nat) (at9 : Int) (k11 : Int) (h1 : List ByteArray) (h1_ : List ByteArray) (h1__ : List Bool) (h2 : Int) (h2_ : Int) (h2__ : Int) (h2___ : ByteArray) (h3 : List ByteArray) : s_l15Recover.l0 k 0 at9 k11 h1 h1_ h1__ h2 h2_ h2__ h2___ h3 = none := by kernel_rfl
theorem s_l15Recover.l0_s (k : Nat) (m : Nat) (at9 : Int) (k11 : Int) (h1 : List ByteArray) (h1_ : List ByteArray) (h1__ : List Bool) (h2 : Int) (h2_ : Int) (h2__ : Int) (h2___ : ByteArray) (h3 : List ByteArray) : s_l15Recover.l0 k (m + 1) at9 k11 h1 h1_ h1__ h2 h2_ h2__ h2___ h3 =
 cn (decide (k11 < (2 : Int)))
 ((s_l7Read.f k h1 h1_ h1__ (IntKind.i64.wrap (at9 + k11))).bind fun d2 =>
  (s_CheckFrame.f k d2.fst (3 : Int) (IntKind.i64.wrap (at9 + k11)) h2__).bind fun d3 =>
  cn (!d2.snd)
  (some (([], (-1 : Int))))
  (cn (!d3.snd.snd)
   (some (([], (-1 : Int))))
   (cn (!decide (d3.fst.snd.snd.fst = h2__))
    (some (([], (-1 : Int))))
    (gd (appOk (h3.length + [d3.fst.snd.snd.snd].length) (Try.prog.bytesOf (9 : Nat)))
     (s_l15Recover.l0 k m at9 (IntKind.i64.wrap (k11 + (1 : Int))) h1 h1_ h1__ h2 h2_ h2__ h2___ (h3 ++ [d3.fst.snd.snd.snd]))))))
 ((s_StateFrom.f k h3).bind fun d2 =>
  cn (!d2.snd)
  (some (([], (-1 : Int))))
  (some ((d2.fst, h2__)))) := by kernel_rfl
theorem s_l15Recover.f_eq (k : Nat) (d_Plate : List ByteArray) (d_Held : List ByteArray) (d_Bad : List Bool) : s_l15Recover.f k d_Plate d_Held d_Bad =
 (s_l7Read.f k d_Plate d_Held d_Bad (0 : Int)).bind fun d0 =>
 (s_CheckFrame.f k d0.fst (4 : Int) (0 : Int) (0 : Int)).bind fun d1 =>
 cn (!d0.snd)
 (some (([], (-1 : Int))))
 (cn (!d1.snd.snd)
  (some (([], (-1 : Int))))
  ((s_l15Half.f k d1.fst.snd.snd.fst).bind fun d2 =>
   s_l15Recover.l0 k k d2 ((0 : Int)) d_Plate d_Held d_Bad d1.fst.fst d1.fst.snd.fst d1.fst.snd.snd.fst d1.fst.snd.snd.snd ([]))) := (opq_eq _).trans (by kernel_rfl)
abbrev s_l15Step.s : Sig := ⟨88, [.agg 7, .one], [.give, .give, .give, .val, .val, .give, .give, .val], [.one (.row 9 .str), .one (.row 9 .str), .one (.row 4 .bool), .one (.int .i64), .one (.int .i64), .one (.row 3 (.int .i64)), .one (.row 3 (.int .i64)), .agg [.int .i64, .row 3 (.int .i64), .row 3 (.int .i64)]], [.agg [.own 9 .str, .own 9 .str, .own 4 .bool, .int .i64, .int .i64, .own 3 (.int .i64), .own 3 (.int .i64)], .one .bool], [], []⟩
noncomputable def s_l15Step.C (k : Nat) : List (Nat × Ctr) := [(118, s_l15Sync.s.ctr (fun x => s_l15Sync.f k x.1 x.2.1 x.2.2.1 x.2.2.2.1 x.2.2.2.2.1 x.2.2.2.2.2.1 x.2.2.2.2.2.2)), (119, s_l7Kept.s.ctr (fun x => s_l7Kept.f k x.1.1 x.1.2.1 x.1.2.2 x.2)), (54, s_l15State.s.ctr (fun x => s_l15State.f k x)), (62, s_l15Write.s.ctr (fun x => s_l15Write.f k x.1 x.2.1 x.2.2.1 x.2.2.2.1 x.2.2.2.2.1 x.2.2.2.2.2.1 x.2.2.2.2.2.2)), (63, s_l15Put.s.ctr (fun x => s_l15Put.f k x.1 x.2.1 x.2.2.1 x.2.2.2.1 x.2.2.2.2)), (64, s_l7Crash.s.ctr (fun x => s_l7Crash.f k x.1 x.2.1 x.2.2.1 x.2.2.2)), (72, s_l15Recover.s.ctr (fun x => s_l15Recover.f k x.1 x.2.1 x.2.2))]
noncomputable def s_l15Step.f (k : Nat) (j_Disk_Plate : List ByteArray) (j_Disk_Held : List ByteArray) (j_Disk_Bad : List Bool) (j_Epoch : Int) (j_Phase : Int) (j_Acked : List Int) (j_Coming : List Int) (x_Kind : Int) (x_Values : List Int) (x_Kept : List Int) : Option ((List ByteArray × List ByteArray × List Bool × Int × Int × List Int × List Int) × Bool) := opq (s_l15Step.s.run Try.prog (s_l15Step.C k) k (j_Disk_Plate, j_Disk_Held, j_Disk_Bad, j_Epoch, j_Phase, j_Acked, j_Coming, (x_Kind, x_Values, x_Kept)))
theorem s_l15Step.ok (k : Nat) : CtrOk Try.prog 88 (s_l15Step.s.ctr (fun x => s_l15Step.f k x.1 x.2.1 x.2.2.1 x.2.2.2.1 x.2.2.2.2.1 x.2.2.2.2.2.1 x.2.2.2.2.2.2.1 x.2.2.2.2.2.2.2.1 x.2.2.2.2.2.2.2.2.1 x.2.2.2.2.2.2.2.2.2)) := sig_ok s_l15Step.s (.cons (s_l15Sync.ok k) (.cons (s_l7Kept.ok k) (.cons (s_l15State.ok k) (.cons (s_l15Write.ok k) (.cons (s_l15Put.ok k) (.cons (s_l7Crash.ok k) (.cons (s_l15Recover.ok k) .nil))))))) (by kernel_rfl) fun _ => opq_eq _
theorem s_l15Step.f_eq (k : Nat) (j_Disk_Plate : List ByteArray) (j_Disk_Held : List ByteArray) (j_Disk_Bad : List Bool) (j_Epoch : Int) (j_Phase : Int) (j_Acked : List Int) (j_Coming : List Int) (x_Kind : Int) (x_Values : List Int) (x_Kept : List Int) : s_l15Step.f k j_Disk_Plate j_Disk_Held j_Disk_Bad j_Epoch j_Phase j_Acked j_Coming x_Kind x_Values x_Kept =

 let z5 : Option ((List ByteArray × List ByteArray × List Bool × Int × Int × List Int × List Int) × Bool) := cn (decide (x_Kind = (4 : Int))) ((s_l7Kept.f k j_Disk_Plate j_Disk_Held j_Disk_Bad x_Kept).bind fun d1 => cn d1 ((s_l7Crash.f k j_Disk_Plate j_Disk_Held j_Disk_Bad x_Kept).bind fun d2 => (s_l15Recover.f k d2.snd.fst d2.snd.snd.fst d2.snd.snd.snd).bind fun d3 => some (((d2.snd.fst, d2.snd.snd.fst, d2.snd.snd.snd, d3.snd, (0 : Int) , d3.fst, []) , decide ((0 : Int) ≤ d3.snd)))) (some (((j_Disk_Plate, j_Disk_Held, j_Disk_Bad, j_Epoch, j_Phase, j_Acked, j_Coming) , false)))) (some (((j_Disk_Plate, j_Disk_Held, j_Disk_Bad, j_Epoch, j_Phase, j_Acked, j_Coming) , false)));
 let z8 : Option ((List ByteArray × List ByteArray × List Bool × Int × Int × List Int × List Int) × Bool) := (s_l15Sync.f k j_Disk_Plate j_Disk_Held j_Disk_Bad j_Epoch j_Phase j_Acked j_Coming).bind fun d0 => some (((d0.fst, d0.snd.fst, d0.snd.snd.fst, d0.snd.snd.snd.fst, d0.snd.snd.snd.snd.fst, d0.snd.snd.snd.snd.snd.fst, d0.snd.snd.snd.snd.snd.snd) , true));
 let z12 : Option ((List ByteArray × List ByteArray × List Bool × Int × Int × List Int × List Int) × Bool) := cn (decide (x_Kind = (4 : Int))) ((s_l7Kept.f k j_Disk_Plate j_Disk_Held j_Disk_Bad x_Kept).bind fun d0 => cn d0 ((s_l7Crash.f k j_Disk_Plate j_Disk_Held j_Disk_Bad x_Kept).bind fun d1 => (s_l15Recover.f k d1.snd.fst d1.snd.snd.fst d1.snd.snd.snd).bind fun d2 => some (((d1.snd.fst, d1.snd.snd.fst, d1.snd.snd.snd, d2.snd, (0 : Int) , d2.fst, []) , decide ((0 : Int) ≤ d2.snd)))) (some (((j_Disk_Plate, j_Disk_Held, j_Disk_Bad, j_Epoch, j_Phase, j_Acked, j_Coming) , false)))) (some (((j_Disk_Plate, j_Disk_Held, j_Disk_Bad, j_Epoch, j_Phase, j_Acked, j_Coming) , false)));
 let z13 : Option ((List ByteArray × List ByteArray × List Bool × Int × Int × List Int × List Int) × Bool) := cn (decide (x_Kind = (3 : Int))) (cn (decide (j_Phase = (2 : Int))) ((s_l15Write.f k j_Disk_Plate j_Disk_Held j_Disk_Bad (4 : Int) (0 : Int) (IntKind.i64.wrap (j_Epoch + (1 : Int))) ByteArray.empty).bind fun d0 => some (((d0.snd.fst, d0.snd.snd.fst, d0.snd.snd.snd, j_Epoch, (3 : Int) , j_Acked, j_Coming) , true))) z12) z12;
 let z16 : Option ((List ByteArray × List ByteArray × List Bool × Int × Int × List Int × List Int) × Bool) := cn (decide (x_Kind = (1 : Int))) (cn (decide (j_Phase = (0 : Int))) (cn (decide (j_Epoch < (60000 : Int))) ((s_l15State.f k x_Values).bind fun d0 => cn d0 ((s_l15Put.f k j_Disk_Plate j_Disk_Held j_Disk_Bad (IntKind.i64.wrap (j_Epoch + (1 : Int))) x_Values).bind fun d1 => gd (appOk ((0 : Nat) + x_Values.length) (Try.prog.bytesOf (3 : Nat))) (some (((d1.snd.fst, d1.snd.snd.fst, d1.snd.snd.snd, j_Epoch, (1 : Int) , j_Acked, [] ++ x_Values) , true)))) (cn (decide (x_Kind = (2 : Int))) ((s_l15Sync.f k j_Disk_Plate j_Disk_Held j_Disk_Bad j_Epoch j_Phase j_Acked j_Coming).bind fun d1 => some (((d1.fst, d1.snd.fst, d1.snd.snd.fst, d1.snd.snd.snd.fst, d1.snd.snd.snd.snd.fst, d1.snd.snd.snd.snd.snd.fst, d1.snd.snd.snd.snd.snd.snd) , true))) (cn (decide (x_Kind = (3 : Int))) (cn (decide (j_Phase = (2 : Int))) ((s_l15Write.f k j_Disk_Plate j_Disk_Held j_Disk_Bad (4 : Int) (0 : Int) (IntKind.i64.wrap (j_Epoch + (1 : Int))) ByteArray.empty).bind fun d1 => some (((d1.snd.fst, d1.snd.snd.fst, d1.snd.snd.snd, j_Epoch, (3 : Int) , j_Acked, j_Coming) , true))) z5) z5))) (cn (decide (x_Kind = (2 : Int))) z8 z13)) (cn (decide (x_Kind = (2 : Int))) z8 z13)) (cn (decide (x_Kind = (2 : Int))) z8 z13);
 let z18 : Option ((List ByteArray × List ByteArray × List Bool × Int × Int × List Int × List Int) × Bool) := cn (!decide (x_Kind = (4 : Int))) (cn (decide ((0 : Int) < (↑x_Kept.length : Int))) (some (((j_Disk_Plate, j_Disk_Held, j_Disk_Bad, j_Epoch, j_Phase, j_Acked, j_Coming) , false))) z16) z16;
 cn (!decide (x_Kind = (1 : Int))) (cn (decide ((0 : Int) < (↑x_Values.length : Int))) (some (((j_Disk_Plate, j_Disk_Held, j_Disk_Bad, j_Epoch, j_Phase, j_Acked, j_Coming) , false))) z18) z18 := (opq_eq _).trans (by kernel_rfl)
abbrev s_PlayJournal.s : Sig := ⟨40, [], [.val], [.one (.row 111 (.pair (.int .i64) (.pair (.sl 3 (.int .i64)) (.sl 3 (.int .i64)))))], [.agg [.own 9 .str, .own 9 .str, .own 4 .bool, .int .i64, .int .i64, .own 3 (.int .i64), .own 3 (.int .i64)], .one (.own 4 .bool), .one .bool], [], [(0, [(2,false),(5,false),(6,true),(16,true),(17,false),(18,false)])]⟩
noncomputable def s_PlayJournal.C (k : Nat) : List (Nat × Ctr) := [(23, s_NewJournal.s.ctr (fun _ => s_NewJournal.f k)), (88, s_l15Step.s.ctr (fun x => s_l15Step.f k x.1 x.2.1 x.2.2.1 x.2.2.2.1 x.2.2.2.2.1 x.2.2.2.2.2.1 x.2.2.2.2.2.2.1 x.2.2.2.2.2.2.2.1 x.2.2.2.2.2.2.2.2.1 x.2.2.2.2.2.2.2.2.2)), (89, s_l15Own.s.ctr (fun x => s_l15Own.f k x.1 x.2.1 x.2.2.1 x.2.2.2.1 x.2.2.2.2.1 x.2.2.2.2.2.1 x.2.2.2.2.2.2))]
noncomputable def s_PlayJournal.f (k : Nat) (l : List (Int × List Int × List Int)) : Option ((List ByteArray × List ByteArray × List Bool × Int × Int × List Int × List Int) × List Bool × Bool) := opq (s_PlayJournal.s.run Try.prog (s_PlayJournal.C k) k l)
theorem s_PlayJournal.ok (k : Nat) : CtrOk Try.prog 40 (s_PlayJournal.s.ctr (fun x => s_PlayJournal.f k x)) := sig_ok s_PlayJournal.s (.cons (s_NewJournal.ok k) (.cons (s_l15Step.ok k) (.cons (s_l15Own.ok k) .nil))) (by kernel_rfl) fun _ => opq_eq _
noncomputable def s_PlayJournal.l0 (k : Nat) (m : Nat) (t16 : List (Int × List Int × List Int)) (t17 : Int) (t18 : Int) (h1 : Int) (h1_ : Int) (h2 : List ByteArray) (h3 : List ByteArray) (h4 : List Bool) (h5 : List Int) (h6 : List Int) (h7 : Int) (h7_ : Int) (h8 : List Bool) : Option ((List ByteArray × List ByteArray × List Bool × Int × Int × List Int × List Int) × List Bool × Bool) := s_PlayJournal.s.head Try.prog (s_PlayJournal.C k) k 1 0 [] m [(2, AV.ptr 1 0 0), (5, AV.ptr 7 0 0), (6, AV.ref 8), (16, AV.row 111 ((Kind.int IntKind.i64).pair ((Kind.sl 3 (Kind.int IntKind.i64)).pair (Kind.sl 3 (Kind.int IntKind.i64)))) t16), (17, AV.int IntKind.i64 t17), (18, AV.int IntKind.i64 t18)] [Root.dead, Root.box 40 [AV.nil 9 Kind.str, AV.nil 9 Kind.str, AV.nil 4 Kind.bool, AV.int IntKind.i64 h1, AV.int IntKind.i64 h1_, AV.nil 3 (Kind.int IntKind.i64), AV.nil 3 (Kind.int IntKind.i64)], Root.rows 9 Kind.str h2, Root.rows 9 Kind.str h3, Root.rows 4 Kind.bool h4, Root.rows 3 (Kind.int IntKind.i64) h5, Root.rows 3 (Kind.int IntKind.i64) h6, Root.box 40 [AV.ref 2, AV.ref 3, AV.ref 4, AV.int IntKind.i64 h7, AV.int IntKind.i64 h7_, AV.ref 5, AV.ref 6], Root.rows 4 Kind.bool h8]
theorem s_PlayJournal.l0_z (k : Nat) (t16 : List (Int × List Int × List Int)) (t17 : Int) (t18 : Int) (h1 : Int) (h1_ : Int) (h2 : List ByteArray) (h3 : List ByteArray) (h4 : List Bool) (h5 : List Int) (h6 : List Int) (h7 : Int) (h7_ : Int) (h8 : List Bool) : s_PlayJournal.l0 k 0 t16 t17 t18 h1 h1_ h2 h3 h4 h5 h6 h7 h7_ h8 = none := by kernel_rfl
theorem s_PlayJournal.l0_s (k : Nat) (m : Nat) (t16 : List (Int × List Int × List Int)) (t17 : Int) (t18 : Int) (h1 : Int) (h1_ : Int) (h2 : List ByteArray) (h3 : List ByteArray) (h4 : List Bool) (h5 : List Int) (h6 : List Int) (h7 : Int) (h7_ : Int) (h8 : List Bool) : s_PlayJournal.l0 k (m + 1) t16 t17 t18 h1 h1_ h2 h3 h4 h5 h6 h7 h7_ h8 =
 cn (decide (t18 < t17))
 (gd (inb t18 t16.length)
  (both
   ((s_l15Own.f k h2 h3 h4 h7 h7_ h5 h6).bind fun d0 =>
    dup
    ((s_l15Step.f k d0.fst d0.snd.fst d0.snd.snd.fst d0.snd.snd.snd.fst d0.snd.snd.snd.snd.fst d0.snd.snd.snd.snd.snd.fst d0.snd.snd.snd.snd.snd.snd (getAt ((0 : Int), [], []) t16 t18.toNat).fst (getAt ((0 : Int), [], []) t16 t18.toNat).snd.fst (getAt ((0 : Int), [], []) t16 t18.toNat).snd.snd).bind fun d1 =>
     cn d1.snd
     (gd (appOk (h8.length + [d1.snd].length) (Try.prog.bytesOf (4 : Nat)))
      (s_PlayJournal.l0 k m t16 t17 (IntKind.i64.wrap (t18 + (1 : Int))) h1 h1_ d1.fst.fst d1.fst.snd.fst d1.fst.snd.snd.fst d1.fst.snd.snd.snd.snd.snd.fst d1.fst.snd.snd.snd.snd.snd.snd d1.fst.snd.snd.snd.fst d1.fst.snd.snd.snd.snd.fst (h8 ++ [d1.snd])))
     (gd (appOk (h8.length + [d1.snd].length) (Try.prog.bytesOf (4 : Nat)))
      (s_PlayJournal.l0 k m t16 t17 (IntKind.i64.wrap (t18 + (1 : Int))) h1 h1_ h2 h3 h4 h5 h6 h7 h7_ (h8 ++ [d1.snd])))))
   ((s_l15Own.f k h2 h3 h4 h7 h7_ h5 h6).bind fun d0 =>
    (s_l15Step.f k d0.fst d0.snd.fst d0.snd.snd.fst d0.snd.snd.snd.fst d0.snd.snd.snd.snd.fst d0.snd.snd.snd.snd.snd.fst d0.snd.snd.snd.snd.snd.snd (getAt ((0 : Int), [], []) t16 t18.toNat).fst (getAt ((0 : Int), [], []) t16 t18.toNat).snd.fst (getAt ((0 : Int), [], []) t16 t18.toNat).snd.snd).bind fun d1 =>
    cn d1.snd
    (gd (appOk (h8.length + [d1.snd].length) (Try.prog.bytesOf (4 : Nat)))
     (s_PlayJournal.l0 k m t16 t17 (IntKind.i64.wrap (t18 + (1 : Int))) h1 h1_ d1.fst.fst d1.fst.snd.fst d1.fst.snd.snd.fst d1.fst.snd.snd.snd.snd.snd.fst d1.fst.snd.snd.snd.snd.snd.snd d1.fst.snd.snd.snd.fst d1.fst.snd.snd.snd.snd.fst (h8 ++ [d1.snd])))
    (gd (appOk (h8.length + [d1.snd].length) (Try.prog.bytesOf (4 : Nat)))
     (s_PlayJournal.l0 k m t16 t17 (IntKind.i64.wrap (t18 + (1 : Int))) h1 h1_ h2 h3 h4 h5 h6 h7 h7_ (h8 ++ [d1.snd]))))))
 ((s_l15Own.f k h2 h3 h4 h7 h7_ h5 h6).bind fun d0 =>
  some (((d0.fst, d0.snd.fst, d0.snd.snd.fst, d0.snd.snd.snd.fst, d0.snd.snd.snd.snd.fst, d0.snd.snd.snd.snd.snd.fst, d0.snd.snd.snd.snd.snd.snd), h8, true))) := by kernel_rfl
theorem s_PlayJournal.f_eq (k : Nat) (l : List (Int × List Int × List Int)) : s_PlayJournal.f k l =
 cn (decide ((60 : Int) < (↑l.length : Int)))
 (some ((([], [], [], (0 : Int), (0 : Int), [], []), [], false)))
 ((s_NewJournal.f k).bind fun d0 =>
  s_PlayJournal.l0 k k l ((↑l.length : Int)) ((0 : Int)) ((0 : Int)) ((0 : Int)) d0.fst d0.snd.fst d0.snd.snd.fst d0.snd.snd.snd.snd.snd.fst d0.snd.snd.snd.snd.snd.snd d0.snd.snd.snd.fst d0.snd.snd.snd.snd.fst ([])) := (opq_eq _).trans (by kernel_rfl)
abbrev i_within.s : Sig := ⟨83, [], [.val, .val, .val], [.one (.int .i64), .one (.int .i64), .one (.int .i64)], [.one .bool], [], []⟩
noncomputable def i_within.C (k : Nat) : List (Nat × Ctr) := []
noncomputable def i_within.f (k : Nat) (n : Int) (low : Int) (high : Int) : Option Bool := opq (i_within.s.run Try.prog (i_within.C k) k (n, low, high))
theorem i_within.ok (k : Nat) : CtrOk Try.prog 83 (i_within.s.ctr (fun x => i_within.f k x.1 x.2.1 x.2.2)) := sig_ok i_within.s .nil (by kernel_rfl) fun _ => opq_eq _
theorem i_within.f_eq (k : Nat) (n : Int) (low : Int) (high : Int) : i_within.f k n low high =
 cn (decide (low ≤ n))
 (some (decide (n ≤ high)))
 (some false) := (opq_eq _).trans (by kernel_rfl)
abbrev i_NewDisk.s : Sig := ⟨66, [], [.val], [.one (.int .i64)], [.agg [.own 9 .str, .own 9 .str, .own 4 .bool], .one .bool], [], []⟩
noncomputable def i_NewDisk.C (k : Nat) : List (Nat × Ctr) := [(83, i_within.s.ctr (fun x => i_within.f k x.1 x.2.1 x.2.2))]
noncomputable def i_NewDisk.f (k : Nat) (sectors : Int) : Option ((List ByteArray × List ByteArray × List Bool) × Bool) := opq (i_NewDisk.s.run Try.prog (i_NewDisk.C k) k sectors)
theorem i_NewDisk.ok (k : Nat) : CtrOk Try.prog 66 (i_NewDisk.s.ctr (fun x => i_NewDisk.f k x)) := sig_ok i_NewDisk.s (.cons (i_within.ok k) .nil) (by kernel_rfl) fun _ => opq_eq _
theorem i_NewDisk.f_eq (k : Nat) (sectors : Int) : i_NewDisk.f k sectors =
 (i_within.f k sectors (1 : Int) (24 : Int)).bind fun d0 =>
 cn (!d0)
 (some ((([], [], []), false)))
 (both
  (gd (mkOk sectors sectors (Try.prog.bytesOf (9 : Nat)))
   (both
    (gd (mkOk sectors sectors (Try.prog.bytesOf (9 : Nat)))
     (gd (mkOk sectors sectors (Try.prog.bytesOf (4 : Nat)))
      (some (((List.replicate sectors.toNat ByteArray.empty, List.replicate sectors.toNat ByteArray.empty, List.replicate sectors.toNat false), true)))))
    (gd (mkOk sectors sectors (Try.prog.bytesOf (4 : Nat)))
     (gd (mkOk sectors sectors (Try.prog.bytesOf (9 : Nat)))
      (some (((List.replicate sectors.toNat ByteArray.empty, List.replicate sectors.toNat ByteArray.empty, List.replicate sectors.toNat false), true)))))))
  (both
   (gd (mkOk sectors sectors (Try.prog.bytesOf (9 : Nat)))
    (both
     (gd (mkOk sectors sectors (Try.prog.bytesOf (9 : Nat)))
      (gd (mkOk sectors sectors (Try.prog.bytesOf (4 : Nat)))
       (some (((List.replicate sectors.toNat ByteArray.empty, List.replicate sectors.toNat ByteArray.empty, List.replicate sectors.toNat false), true)))))
     (gd (mkOk sectors sectors (Try.prog.bytesOf (4 : Nat)))
      (gd (mkOk sectors sectors (Try.prog.bytesOf (9 : Nat)))
       (some (((List.replicate sectors.toNat ByteArray.empty, List.replicate sectors.toNat ByteArray.empty, List.replicate sectors.toNat false), true)))))))
   (gd (mkOk sectors sectors (Try.prog.bytesOf (4 : Nat)))
    (dup
     (gd (mkOk sectors sectors (Try.prog.bytesOf (9 : Nat)))
      (gd (mkOk sectors sectors (Try.prog.bytesOf (9 : Nat)))
       (some (((List.replicate sectors.toNat ByteArray.empty, List.replicate sectors.toNat ByteArray.empty, List.replicate sectors.toNat false), true))))))))) := (opq_eq _).trans (by kernel_rfl)
abbrev i_halfOf.s : Sig := ⟨77, [], [.val], [.one (.int .i64)], [.one (.int .i64)], [], []⟩
noncomputable def i_halfOf.C (k : Nat) : List (Nat × Ctr) := []
noncomputable def i_halfOf.f (k : Nat) (epoch : Int) : Option Int := opq (i_halfOf.s.run Try.prog (i_halfOf.C k) k epoch)
theorem i_halfOf.ok (k : Nat) : CtrOk Try.prog 77 (i_halfOf.s.ctr (fun x => i_halfOf.f k x)) := sig_ok i_halfOf.s .nil (by kernel_rfl) fun _ => opq_eq _
theorem i_halfOf.f_eq (k : Nat) (epoch : Int) : i_halfOf.f k epoch =
 some (IntKind.i64.wrap ((1 : Int) + IntKind.i64.wrap ((2 : Int) * epoch.tmod (2 : Int)))) := (opq_eq _).trans (by kernel_rfl)
abbrev i_stateBytes.s : Sig := ⟨57, [], [.val], [.one (.row 3 (.int .i64))], [.one (.own 9 .str)], [], [(0, [(3,true),(7,true),(8,false),(9,false)])]⟩
noncomputable def i_stateBytes.C (k : Nat) : List (Nat × Ctr) := []
noncomputable def i_stateBytes.f (k : Nat) (values : List Int) : Option (List ByteArray) := opq (i_stateBytes.s.run Try.prog (i_stateBytes.C k) k values)
theorem i_stateBytes.ok (k : Nat) : CtrOk Try.prog 57 (i_stateBytes.s.ctr (fun x => i_stateBytes.f k x)) := sig_ok i_stateBytes.s .nil (by kernel_rfl) fun _ => opq_eq _
noncomputable def i_stateBytes.l0 (k : Nat) (m : Nat) (t7 : List Int) (t8 : Int) (t9 : Int) (h1 : List Int) : Option (List ByteArray) := i_stateBytes.s.head Try.prog (i_stateBytes.C k) k 1 0 [] m [(3, AV.ref 1), (7, AV.row 3 (Kind.int IntKind.i64) t7), (8, AV.int IntKind.i64 t8), (9, AV.int IntKind.i64 t9)] [Root.dead, Root.rows 5 (Kind.int IntKind.u8) h1]
theorem i_stateBytes.l0_z (k : Nat) (t7 : List Int) (t8 : Int) (t9 : Int) (h1 : List Int) : i_stateBytes.l0 k 0 t7 t8 t9 h1 = none := by kernel_rfl
theorem i_stateBytes.l0_s (k : Nat) (m : Nat) (t7 : List Int) (t8 : Int) (t9 : Int) (h1 : List Int) : i_stateBytes.l0 k (m + 1) t7 t8 t9 h1 =
 cn (decide (t9 < t8))
 (gd (inb t9 t7.length)
  (gd (appOk (h1.length + [IntKind.u8.wrap ((getAt (0 : Int) t7 t9.toNat).fdiv ((2 : Int) ^ (8 : Nat))), IntKind.u8.wrap (getAt (0 : Int) t7 t9.toNat)].length) (Try.prog.bytesOf (5 : Nat)))
   (i_stateBytes.l0 k m t7 t8 (IntKind.i64.wrap (t9 + (1 : Int))) (h1 ++ [IntKind.u8.wrap ((getAt (0 : Int) t7 t9.toNat).fdiv ((2 : Int) ^ (8 : Nat))), IntKind.u8.wrap (getAt (0 : Int) t7 t9.toNat)]))))
 (gd (true && decide ((6 : Int) ≤ (↑h1.length : Int)))
  (gd (true && decide ((6 : Int) ≤ (↑h1.length : Int)))
   (dup
    (some ([strOfNums (List.take (6 : Nat) (List.drop (0 : Nat) h1)), strOfNums (List.take (h1.length - (6 : Nat)) (List.drop (6 : Nat) h1))]))))) := by kernel_rfl
theorem i_stateBytes.f_eq (k : Nat) (values : List Int) : i_stateBytes.f k values =
 i_stateBytes.l0 k k values ((↑values.length : Int)) ((0 : Int)) ([]) := (opq_eq _).trans (by kernel_rfl)
abbrev i_turned.s : Sig := ⟨136, [], [.val], [.one (.int .i64)], [.one (.int .i64)], [], []⟩
noncomputable def i_turned.C (k : Nat) : List (Nat × Ctr) := []
noncomputable def i_turned.f (k : Nat) (sum : Int) : Option Int := opq (i_turned.s.run Try.prog (i_turned.C k) k sum)
theorem i_turned.ok (k : Nat) : CtrOk Try.prog 136 (i_turned.s.ctr (fun x => i_turned.f k x)) := sig_ok i_turned.s .nil (by kernel_rfl) fun _ => opq_eq _
theorem i_turned.f_eq (k : Nat) (sum : Int) : i_turned.f k sum =
 some (IntKind.i64.wrap (↑(BitVec.ofInt (64 : Nat) sum ^^^ BitVec.ofInt (64 : Nat) (4294967295 : Int)).toNat : Int)) := (opq_eq _).trans (by kernel_rfl)
abbrev i_shifted.s : Sig := ⟨137, [], [.val], [.one (.int .i64)], [.one (.int .i64)], [], [(0, [(0,false),(4,false)])]⟩
noncomputable def i_shifted.C (k : Nat) : List (Nat × Ctr) := []
noncomputable def i_shifted.f (k : Nat) (sum : Int) : Option Int := opq (i_shifted.s.run Try.prog (i_shifted.C k) k sum)
theorem i_shifted.ok (k : Nat) : CtrOk Try.prog 137 (i_shifted.s.ctr (fun x => i_shifted.f k x)) := sig_ok i_shifted.s .nil (by kernel_rfl) fun _ => opq_eq _
noncomputable def i_shifted.l0 (k : Nat) (m : Nat) (sum0 : Int) (t4 : Int) : Option Int := i_shifted.s.head Try.prog (i_shifted.C k) k 1 0 [] m [(0, AV.int IntKind.i64 sum0), (4, AV.int IntKind.i64 t4)] [Root.dead]
theorem i_shifted.l0_z (k : Nat) (sum0 : Int) (t4 : Int) : i_shifted.l0 k 0 sum0 t4 = none := by kernel_rfl
theorem i_shifted.l0_s (k : Nat) (m : Nat) (sum0 : Int) (t4 : Int) : i_shifted.l0 k (m + 1) sum0 t4 =
 cn (decide (t4 < (8 : Int)))
 (cn (decide (IntKind.i64.wrap (↑(BitVec.ofInt (64 : Nat) sum0 &&& BitVec.ofInt (64 : Nat) (1 : Int)).toNat : Int) = (1 : Int)))
  (i_shifted.l0 k m (IntKind.i64.wrap (↑(BitVec.ofInt (64 : Nat) (sum0.fdiv ((2 : Int) ^ (1 : Nat))) ^^^ BitVec.ofInt (64 : Nat) (2197175160 : Int)).toNat : Int)) (IntKind.i64.wrap (t4 + (1 : Int))))
  (i_shifted.l0 k m (sum0.fdiv ((2 : Int) ^ (1 : Nat))) (IntKind.i64.wrap (t4 + (1 : Int)))))
 (some sum0) := by kernel_rfl
theorem i_shifted.f_eq (k : Nat) (sum : Int) : i_shifted.f k sum =
 i_shifted.l0 k k sum ((0 : Int)) := (opq_eq _).trans (by kernel_rfl)
abbrev i_sumOn.s : Sig := ⟨128, [], [.val, .val], [.one (.int .i64), .one .str], [.one (.int .i64)], [], [(0, [(0,false),(1,false),(9,false),(10,false)])]⟩
noncomputable def i_sumOn.C (k : Nat) : List (Nat × Ctr) := [(136, i_turned.s.ctr (fun x => i_turned.f k x)), (137, i_shifted.s.ctr (fun x => i_shifted.f k x))]
noncomputable def i_sumOn.f (k : Nat) (sum : Int) (s : ByteArray) : Option Int := opq (i_sumOn.s.run Try.prog (i_sumOn.C k) k (sum, s))
theorem i_sumOn.ok (k : Nat) : CtrOk Try.prog 128 (i_sumOn.s.ctr (fun x => i_sumOn.f k x.1 x.2)) := sig_ok i_sumOn.s (.cons (i_turned.ok k) (.cons (i_shifted.ok k) .nil)) (by kernel_rfl) fun _ => opq_eq _
noncomputable def i_sumOn.l0 (k : Nat) (m : Nat) (sum0 : Int) (s1 : ByteArray) (t9 : Int) (t10 : Int) : Option Int := i_sumOn.s.head Try.prog (i_sumOn.C k) k 1 0 [] m [(0, AV.int IntKind.i64 sum0), (1, AV.str s1), (9, AV.int IntKind.i64 t9), (10, AV.int IntKind.i64 t10)] [Root.dead]
theorem i_sumOn.l0_z (k : Nat) (sum0 : Int) (s1 : ByteArray) (t9 : Int) (t10 : Int) : i_sumOn.l0 k 0 sum0 s1 t9 t10 = none := by kernel_rfl
theorem i_sumOn.l0_s (k : Nat) (m : Nat) (sum0 : Int) (s1 : ByteArray) (t9 : Int) (t10 : Int) : i_sumOn.l0 k (m + 1) sum0 s1 t9 t10 =
 cn (decide (t10 < t9))
 (gd (inb t10 s1.size)
  ((i_shifted.f k (IntKind.i64.wrap (↑(BitVec.ofInt (64 : Nat) sum0 ^^^ BitVec.ofInt (64 : Nat) (IntKind.i64.wrap (↑(s1.data.getD t10.toNat (0 : UInt8)).toNat : Int))).toNat : Int))).bind fun d1 =>
   i_sumOn.l0 k m d1 s1 t9 (IntKind.i64.wrap (t10 + (1 : Int)))))
 ((i_turned.f k sum0).bind fun d1 =>
  some d1) := by kernel_rfl
theorem i_sumOn.f_eq (k : Nat) (sum : Int) (s : ByteArray) : i_sumOn.f k sum s =
 (i_turned.f k sum).bind fun d0 =>
 i_sumOn.l0 k k d0 s ((↑s.size : Int)) ((0 : Int)) := (opq_eq _).trans (by kernel_rfl)
abbrev i_frameBytes.s : Sig := ⟨104, [], [.val], [.agg [.int .i64, .int .i64, .int .i64, .str]], [.one .str], [], []⟩
noncomputable def i_frameBytes.C (k : Nat) : List (Nat × Ctr) := [(128, i_sumOn.s.ctr (fun x => i_sumOn.f k x.1 x.2))]
noncomputable def i_frameBytes.f (k : Nat) (f_Kind : Int) (f_At : Int) (f_Epoch : Int) (f_Body : ByteArray) : Option ByteArray := opq (i_frameBytes.s.run Try.prog (i_frameBytes.C k) k (f_Kind, f_At, f_Epoch, f_Body))
theorem i_frameBytes.ok (k : Nat) : CtrOk Try.prog 104 (i_frameBytes.s.ctr (fun x => i_frameBytes.f k x.1 x.2.1 x.2.2.1 x.2.2.2)) := sig_ok i_frameBytes.s (.cons (i_sumOn.ok k) .nil) (by kernel_rfl) fun _ => opq_eq _
theorem i_frameBytes.f_eq (k : Nat) (f_Kind : Int) (f_At : Int) (f_Epoch : Int) (f_Body : ByteArray) : i_frameBytes.f k f_Kind f_At f_Epoch f_Body =
 gd (appOk ([IntKind.u8.wrap f_Kind, IntKind.u8.wrap (f_At.fdiv ((2 : Int) ^ (8 : Nat))), IntKind.u8.wrap f_At, IntKind.u8.wrap (f_Epoch.fdiv ((2 : Int) ^ (8 : Nat))), IntKind.u8.wrap f_Epoch, IntKind.u8.wrap (↑f_Body.size : Int)].length + (bytesL f_Body).length) (Try.prog.bytesOf (5 : Nat)))
 (gd (decide ((0 : Int) ≤ IntKind.i64.wrap (IntKind.i64.wrap ((18 : Int) - (↑f_Body.size : Int)))) && appOk (([IntKind.u8.wrap f_Kind, IntKind.u8.wrap (f_At.fdiv ((2 : Int) ^ (8 : Nat))), IntKind.u8.wrap f_At, IntKind.u8.wrap (f_Epoch.fdiv ((2 : Int) ^ (8 : Nat))), IntKind.u8.wrap f_Epoch, IntKind.u8.wrap (↑f_Body.size : Int)] ++ bytesL f_Body).length + (List.replicate (IntKind.i64.wrap (IntKind.i64.wrap ((18 : Int) - (↑f_Body.size : Int)))).toNat (0 : Int)).length) (Try.prog.bytesOf (5 : Nat)))
  ((i_sumOn.f k (0 : Int) (strOfNums ([IntKind.u8.wrap f_Kind, IntKind.u8.wrap (f_At.fdiv ((2 : Int) ^ (8 : Nat))), IntKind.u8.wrap f_At, IntKind.u8.wrap (f_Epoch.fdiv ((2 : Int) ^ (8 : Nat))), IntKind.u8.wrap f_Epoch, IntKind.u8.wrap (↑f_Body.size : Int)] ++ bytesL f_Body ++ List.replicate (IntKind.i64.wrap (IntKind.i64.wrap ((18 : Int) - (↑f_Body.size : Int)))).toNat (0 : Int)))).bind fun d0 =>
   gd (appOk (([IntKind.u8.wrap f_Kind, IntKind.u8.wrap (f_At.fdiv ((2 : Int) ^ (8 : Nat))), IntKind.u8.wrap f_At, IntKind.u8.wrap (f_Epoch.fdiv ((2 : Int) ^ (8 : Nat))), IntKind.u8.wrap f_Epoch, IntKind.u8.wrap (↑f_Body.size : Int)] ++ bytesL f_Body ++ List.replicate (IntKind.i64.wrap (IntKind.i64.wrap ((18 : Int) - (↑f_Body.size : Int)))).toNat (0 : Int)).length + [IntKind.u8.wrap d0, IntKind.u8.wrap (Int.fdiv d0 ((2 : Int) ^ (8 : Nat))), IntKind.u8.wrap (Int.fdiv d0 ((2 : Int) ^ (16 : Nat))), IntKind.u8.wrap (Int.fdiv d0 ((2 : Int) ^ (24 : Nat)))].length) (Try.prog.bytesOf (5 : Nat)))
   (some (strOfNums ([IntKind.u8.wrap f_Kind, IntKind.u8.wrap (f_At.fdiv ((2 : Int) ^ (8 : Nat))), IntKind.u8.wrap f_At, IntKind.u8.wrap (f_Epoch.fdiv ((2 : Int) ^ (8 : Nat))), IntKind.u8.wrap f_Epoch, IntKind.u8.wrap (↑f_Body.size : Int)] ++ bytesL f_Body ++ List.replicate (IntKind.i64.wrap (IntKind.i64.wrap ((18 : Int) - (↑f_Body.size : Int)))).toNat (0 : Int) ++ [IntKind.u8.wrap d0, IntKind.u8.wrap (Int.fdiv d0 ((2 : Int) ^ (8 : Nat))), IntKind.u8.wrap (Int.fdiv d0 ((2 : Int) ^ (16 : Nat))), IntKind.u8.wrap (Int.fdiv d0 ((2 : Int) ^ (24 : Nat)))]))))) := (opq_eq _).trans (by kernel_rfl)
abbrev i_sectorsOf.s : Sig := ⟨67, [], [.val, .val], [.one (.int .i64), .one (.row 3 (.int .i64))], [.one (.own 9 .str), .one (.int .i64)], [], [(0, [(0,false),(6,false),(7,true),(14,true),(15,false),(16,false)])]⟩
noncomputable def i_sectorsOf.C (k : Nat) : List (Nat × Ctr) := [(104, i_frameBytes.s.ctr (fun x => i_frameBytes.f k x.1 x.2.1 x.2.2.1 x.2.2.2)), (57, i_stateBytes.s.ctr (fun x => i_stateBytes.f k x)), (77, i_halfOf.s.ctr (fun x => i_halfOf.f k x))]
noncomputable def i_sectorsOf.f (k : Nat) (epoch : Int) (values : List Int) : Option (List ByteArray × Int) := opq (i_sectorsOf.s.run Try.prog (i_sectorsOf.C k) k (epoch, values))
theorem i_sectorsOf.ok (k : Nat) : CtrOk Try.prog 67 (i_sectorsOf.s.ctr (fun x => i_sectorsOf.f k x.1 x.2)) := sig_ok i_sectorsOf.s (.cons (i_frameBytes.ok k) (.cons (i_stateBytes.ok k) (.cons (i_halfOf.ok k) .nil))) (by kernel_rfl) fun _ => opq_eq _
noncomputable def i_sectorsOf.l0 (k : Nat) (m : Nat) (epoch0 : Int) (at6 : Int) (t15 : Int) (t16 : Int) (h1 : List ByteArray) (h2 : List ByteArray) : Option (List ByteArray × Int) := i_sectorsOf.s.head Try.prog (i_sectorsOf.C k) k 1 0 [] m [(0, AV.int IntKind.i64 epoch0), (6, AV.int IntKind.i64 at6), (7, AV.ref 1), (14, AV.ref 2), (15, AV.int IntKind.i64 t15), (16, AV.int IntKind.i64 t16)] [Root.dead, Root.rows 9 Kind.str h1, Root.rows 9 Kind.str h2]
theorem i_sectorsOf.l0_z (k : Nat) (epoch0 : Int) (at6 : Int) (t15 : Int) (t16 : Int) (h1 : List ByteArray) (h2 : List ByteArray) : i_sectorsOf.l0 k 0 epoch0 at6 t15 t16 h1 h2 = none := by kernel_rfl
theorem i_sectorsOf.l0_s (k : Nat) (m : Nat) (epoch0 : Int) (at6 : Int) (t15 : Int) (t16 : Int) (h1 : List ByteArray) (h2 : List ByteArray) : i_sectorsOf.l0 k (m + 1) epoch0 at6 t15 t16 h1 h2 =
 cn (decide (t16 < t15))
 (gd (inb t16 h2.length)
  ((i_frameBytes.f k (3 : Int) (IntKind.i64.wrap (at6 + t16)) epoch0 (getAt ByteArray.empty h2 t16.toNat)).bind fun d2 =>
   gd (appOk (h1.length + [d2].length) (Try.prog.bytesOf (9 : Nat)))
   (i_sectorsOf.l0 k m epoch0 at6 t15 (IntKind.i64.wrap (t16 + (1 : Int))) (h1 ++ [d2]) h2)))
 (some ((h1, at6))) := by kernel_rfl
theorem i_sectorsOf.f_eq (k : Nat) (epoch : Int) (values : List Int) : i_sectorsOf.f k epoch values =
 (i_halfOf.f k epoch).bind fun d0 =>
 (i_stateBytes.f k values).bind fun d1 =>
 i_sectorsOf.l0 k k epoch d0 ((↑(List.length d1) : Int)) ((0 : Int)) ([]) d1 := (opq_eq _).trans (by kernel_rfl)
abbrev i_rootOf.s : Sig := ⟨68, [], [.val], [.one (.int .i64)], [.one .str], [], []⟩
noncomputable def i_rootOf.C (k : Nat) : List (Nat × Ctr) := [(104, i_frameBytes.s.ctr (fun x => i_frameBytes.f k x.1 x.2.1 x.2.2.1 x.2.2.2))]
noncomputable def i_rootOf.f (k : Nat) (epoch : Int) : Option ByteArray := opq (i_rootOf.s.run Try.prog (i_rootOf.C k) k epoch)
theorem i_rootOf.ok (k : Nat) : CtrOk Try.prog 68 (i_rootOf.s.ctr (fun x => i_rootOf.f k x)) := sig_ok i_rootOf.s (.cons (i_frameBytes.ok k) .nil) (by kernel_rfl) fun _ => opq_eq _
theorem i_rootOf.f_eq (k : Nat) (epoch : Int) : i_rootOf.f k epoch =
 (i_frameBytes.f k (4 : Int) (0 : Int) epoch ByteArray.empty).bind fun d0 =>
 some d0 := (opq_eq _).trans (by kernel_rfl)
abbrev i_NewJournal.s : Sig := ⟨24, [], [], [], [.agg [.own 9 .str, .own 9 .str, .own 4 .bool, .int .i64, .int .i64, .own 3 (.int .i64), .own 3 (.int .i64)]], [], []⟩
noncomputable def i_NewJournal.C (k : Nat) : List (Nat × Ctr) := [(66, i_NewDisk.s.ctr (fun x => i_NewDisk.f k x)), (67, i_sectorsOf.s.ctr (fun x => i_sectorsOf.f k x.1 x.2)), (68, i_rootOf.s.ctr (fun x => i_rootOf.f k x))]
noncomputable def i_NewJournal.f (k : Nat)  : Option (List ByteArray × List ByteArray × List Bool × Int × Int × List Int × List Int) := opq (i_NewJournal.s.run Try.prog (i_NewJournal.C k) k ())
theorem i_NewJournal.ok (k : Nat) : CtrOk Try.prog 24 (i_NewJournal.s.ctr (fun _ => i_NewJournal.f k)) := sig_ok i_NewJournal.s (.cons (i_NewDisk.ok k) (.cons (i_sectorsOf.ok k) (.cons (i_rootOf.ok k) .nil))) (by kernel_rfl) fun _ => opq_eq _
theorem i_NewJournal.f_eq (k : Nat) : i_NewJournal.f k =
 (i_NewDisk.f k (5 : Int)).bind fun d0 =>
 (i_sectorsOf.f k (0 : Int) (List.replicate (6 : Nat) (0 : Int))).bind fun d1 =>
 (i_rootOf.f k (0 : Int)).bind fun d2 =>
 gd (inb (0 : Int) d0.fst.fst.length)
 (gd (decide ((0 : Int) ≤ d1.snd) && decide (d1.snd ≤ (↑(d0.fst.fst.set (0 : Nat) d2).length : Int)))
  (some ((copyL (d0.fst.fst.set (0 : Nat) d2) ((0 : Nat) + Int.toNat d1.snd) ((d0.fst.fst.set (0 : Nat) d2).length - Int.toNat d1.snd) d1.fst, d0.fst.snd.fst, d0.fst.snd.snd, (0 : Int), (0 : Int), List.replicate (6 : Nat) (0 : Int), [])))) := (opq_eq _).trans (by kernel_rfl)
abbrev b_Clone_string.s : Sig := ⟨131, [], [.val], [.one (.row 9 .str)], [.one (.own 9 .str)], [], []⟩
noncomputable def b_Clone_string.C (k : Nat) : List (Nat × Ctr) := []
noncomputable def b_Clone_string.f (k : Nat) (s : List ByteArray) : Option (List ByteArray) := opq (b_Clone_string.s.run Try.prog (b_Clone_string.C k) k s)
theorem b_Clone_string.ok (k : Nat) : CtrOk Try.prog 131 (b_Clone_string.s.ctr (fun x => b_Clone_string.f k x)) := sig_ok b_Clone_string.s .nil (by kernel_rfl) fun _ => opq_eq _
theorem b_Clone_string.f_eq (k : Nat) (s : List ByteArray) : b_Clone_string.f k s =
 cn (noEl s)
 (both
  (some ([]))
  (gd (appOk ((0 : Nat) + s.length) (Try.prog.bytesOf (9 : Nat)))
   (some ([] ++ s))))
 (gd (appOk ((0 : Nat) + s.length) (Try.prog.bytesOf (9 : Nat)))
  (some ([] ++ s))) := (opq_eq _).trans (by kernel_rfl)
abbrev b_Clone_bool.s : Sig := ⟨132, [], [.val], [.one (.row 4 .bool)], [.one (.own 4 .bool)], [], []⟩
noncomputable def b_Clone_bool.C (k : Nat) : List (Nat × Ctr) := []
noncomputable def b_Clone_bool.f (k : Nat) (s : List Bool) : Option (List Bool) := opq (b_Clone_bool.s.run Try.prog (b_Clone_bool.C k) k s)
theorem b_Clone_bool.ok (k : Nat) : CtrOk Try.prog 132 (b_Clone_bool.s.ctr (fun x => b_Clone_bool.f k x)) := sig_ok b_Clone_bool.s .nil (by kernel_rfl) fun _ => opq_eq _
theorem b_Clone_bool.f_eq (k : Nat) (s : List Bool) : b_Clone_bool.f k s =
 cn (noEl s)
 (both
  (some ([]))
  (gd (appOk ((0 : Nat) + s.length) (Try.prog.bytesOf (4 : Nat)))
   (some ([] ++ s))))
 (gd (appOk ((0 : Nat) + s.length) (Try.prog.bytesOf (4 : Nat)))
  (some ([] ++ s))) := (opq_eq _).trans (by kernel_rfl)
abbrev i_ownDisk.s : Sig := ⟨110, [], [.val], [.agg [.row 9 .str, .row 9 .str, .row 4 .bool]], [.agg [.own 9 .str, .own 9 .str, .own 4 .bool]], [], []⟩
noncomputable def i_ownDisk.C (k : Nat) : List (Nat × Ctr) := [(131, b_Clone_string.s.ctr (fun x => b_Clone_string.f k x)), (132, b_Clone_bool.s.ctr (fun x => b_Clone_bool.f k x))]
noncomputable def i_ownDisk.f (k : Nat) (d_Plate : List ByteArray) (d_Held : List ByteArray) (d_Bad : List Bool) : Option (List ByteArray × List ByteArray × List Bool) := opq (i_ownDisk.s.run Try.prog (i_ownDisk.C k) k (d_Plate, d_Held, d_Bad))
theorem i_ownDisk.ok (k : Nat) : CtrOk Try.prog 110 (i_ownDisk.s.ctr (fun x => i_ownDisk.f k x.1 x.2.1 x.2.2)) := sig_ok i_ownDisk.s (.cons (b_Clone_string.ok k) (.cons (b_Clone_bool.ok k) .nil)) (by kernel_rfl) fun _ => opq_eq _
theorem i_ownDisk.f_eq (k : Nat) (d_Plate : List ByteArray) (d_Held : List ByteArray) (d_Bad : List Bool) : i_ownDisk.f k d_Plate d_Held d_Bad =
 (b_Clone_string.f k d_Plate).bind fun d0 =>
 (b_Clone_string.f k d_Held).bind fun d1 =>
 (b_Clone_bool.f k d_Bad).bind fun d2 =>
 some ((d0, d1, d2)) := (opq_eq _).trans (by kernel_rfl)
abbrev b_Clone_int.s : Sig := ⟨117, [], [.val], [.one (.row 3 (.int .i64))], [.one (.own 3 (.int .i64))], [], []⟩
noncomputable def b_Clone_int.C (k : Nat) : List (Nat × Ctr) := []
noncomputable def b_Clone_int.f (k : Nat) (s : List Int) : Option (List Int) := opq (b_Clone_int.s.run Try.prog (b_Clone_int.C k) k s)
theorem b_Clone_int.ok (k : Nat) : CtrOk Try.prog 117 (b_Clone_int.s.ctr (fun x => b_Clone_int.f k x)) := sig_ok b_Clone_int.s .nil (by kernel_rfl) fun _ => opq_eq _
theorem b_Clone_int.f_eq (k : Nat) (s : List Int) : b_Clone_int.f k s =
 cn (noEl s)
 (both
  (some ([]))
  (gd (appOk ((0 : Nat) + s.length) (Try.prog.bytesOf (3 : Nat)))
   (some ([] ++ s))))
 (gd (appOk ((0 : Nat) + s.length) (Try.prog.bytesOf (3 : Nat)))
  (some ([] ++ s))) := (opq_eq _).trans (by kernel_rfl)
abbrev i_ownJournal.s : Sig := ⟨116, [], [.val], [.agg [.row 9 .str, .row 9 .str, .row 4 .bool, .int .i64, .int .i64, .row 3 (.int .i64), .row 3 (.int .i64)]], [.agg [.own 9 .str, .own 9 .str, .own 4 .bool, .int .i64, .int .i64, .own 3 (.int .i64), .own 3 (.int .i64)]], [], []⟩
noncomputable def i_ownJournal.C (k : Nat) : List (Nat × Ctr) := [(110, i_ownDisk.s.ctr (fun x => i_ownDisk.f k x.1 x.2.1 x.2.2)), (117, b_Clone_int.s.ctr (fun x => b_Clone_int.f k x))]
noncomputable def i_ownJournal.f (k : Nat) (j_Disk_Plate : List ByteArray) (j_Disk_Held : List ByteArray) (j_Disk_Bad : List Bool) (j_Epoch : Int) (j_Phase : Int) (j_Acked : List Int) (j_Coming : List Int) : Option (List ByteArray × List ByteArray × List Bool × Int × Int × List Int × List Int) := opq (i_ownJournal.s.run Try.prog (i_ownJournal.C k) k (j_Disk_Plate, j_Disk_Held, j_Disk_Bad, j_Epoch, j_Phase, j_Acked, j_Coming))
theorem i_ownJournal.ok (k : Nat) : CtrOk Try.prog 116 (i_ownJournal.s.ctr (fun x => i_ownJournal.f k x.1 x.2.1 x.2.2.1 x.2.2.2.1 x.2.2.2.2.1 x.2.2.2.2.2.1 x.2.2.2.2.2.2)) := sig_ok i_ownJournal.s (.cons (i_ownDisk.ok k) (.cons (b_Clone_int.ok k) .nil)) (by kernel_rfl) fun _ => opq_eq _
theorem i_ownJournal.f_eq (k : Nat) (j_Disk_Plate : List ByteArray) (j_Disk_Held : List ByteArray) (j_Disk_Bad : List Bool) (j_Epoch : Int) (j_Phase : Int) (j_Acked : List Int) (j_Coming : List Int) : i_ownJournal.f k j_Disk_Plate j_Disk_Held j_Disk_Bad j_Epoch j_Phase j_Acked j_Coming =
 (i_ownDisk.f k j_Disk_Plate j_Disk_Held j_Disk_Bad).bind fun d0 =>
 (b_Clone_int.f k j_Acked).bind fun d1 =>
 (b_Clone_int.f k j_Coming).bind fun d2 =>
 some ((d0.fst, d0.snd.fst, d0.snd.snd, j_Epoch, j_Phase, d1, d2)) := (opq_eq _).trans (by kernel_rfl)
abbrev i_isState_1.s : Sig := ⟨98, [], [.val], [.one (.int .i64)], [.one .bool], [], []⟩
noncomputable def i_isState_1.C (k : Nat) : List (Nat × Ctr) := [(83, i_within.s.ctr (fun x => i_within.f k x.1 x.2.1 x.2.2))]
noncomputable def i_isState_1.f (k : Nat) (n : Int) : Option Bool := opq (i_isState_1.s.run Try.prog (i_isState_1.C k) k n)
theorem i_isState_1.ok (k : Nat) : CtrOk Try.prog 98 (i_isState_1.s.ctr (fun x => i_isState_1.f k x)) := sig_ok i_isState_1.s (.cons (i_within.ok k) .nil) (by kernel_rfl) fun _ => opq_eq _
theorem i_isState_1.f_eq (k : Nat) (n : Int) : i_isState_1.f k n =
 (i_within.f k n (0 : Int) (65535 : Int)).bind fun d0 =>
 some (!d0) := (opq_eq _).trans (by kernel_rfl)
abbrev b_IndexFunc_int__i_isState_1.s : Sig := ⟨123, [], [.val, .val], [.one (.row 3 (.int .i64)), .one (.fn 98)], [.one (.int .i64)], [], [(0, [(0,false),(1,false),(7,false),(8,false)])]⟩
noncomputable def b_IndexFunc_int__i_isState_1.C (k : Nat) : List (Nat × Ctr) := [(98, i_isState_1.s.ctr (fun x => i_isState_1.f k x))]
noncomputable def b_IndexFunc_int__i_isState_1.f (k : Nat) (s : List Int) : Option Int := opq (b_IndexFunc_int__i_isState_1.s.run Try.prog (b_IndexFunc_int__i_isState_1.C k) k (s, ()))
theorem b_IndexFunc_int__i_isState_1.ok (k : Nat) : CtrOk Try.prog 123 (b_IndexFunc_int__i_isState_1.s.ctr (fun x => b_IndexFunc_int__i_isState_1.f k x.1)) := sig_ok b_IndexFunc_int__i_isState_1.s (.cons (i_isState_1.ok k) .nil) (by kernel_rfl) fun _ => opq_eq _
noncomputable def b_IndexFunc_int__i_isState_1.l0 (k : Nat) (m : Nat) (s0 : List Int) (t7 : Int) (t8 : Int) : Option Int := b_IndexFunc_int__i_isState_1.s.head Try.prog (b_IndexFunc_int__i_isState_1.C k) k 1 0 [] m [(0, AV.row 3 (Kind.int IntKind.i64) s0), (1, AV.fn 98), (7, AV.int IntKind.i64 t7), (8, AV.int IntKind.i64 t8)] [Root.dead]
theorem b_IndexFunc_int__i_isState_1.l0_z (k : Nat) (s0 : List Int) (t7 : Int) (t8 : Int) : b_IndexFunc_int__i_isState_1.l0 k 0 s0 t7 t8 = none := by kernel_rfl
theorem b_IndexFunc_int__i_isState_1.l0_s (k : Nat) (m : Nat) (s0 : List Int) (t7 : Int) (t8 : Int) : b_IndexFunc_int__i_isState_1.l0 k (m + 1) s0 t7 t8 =
 cn (decide (t8 < t7))
 (gd (inb t8 s0.length)
  ((i_isState_1.f k (getAt (0 : Int) s0 t8.toNat)).bind fun d0 =>
   cn d0
   (some t8)
   (b_IndexFunc_int__i_isState_1.l0 k m s0 t7 (IntKind.i64.wrap (t8 + (1 : Int))))))
 (some ((-1 : Int))) := by kernel_rfl
theorem b_IndexFunc_int__i_isState_1.f_eq (k : Nat) (s : List Int) : b_IndexFunc_int__i_isState_1.f k s =
 b_IndexFunc_int__i_isState_1.l0 k k s ((↑s.length : Int)) ((0 : Int)) := (opq_eq _).trans (by kernel_rfl)
abbrev b_ContainsFunc_int__i_isState_1.s : Sig := ⟨97, [], [.val, .val], [.one (.row 3 (.int .i64)), .one (.fn 98)], [.one .bool], [], []⟩
noncomputable def b_ContainsFunc_int__i_isState_1.C (k : Nat) : List (Nat × Ctr) := [(123, b_IndexFunc_int__i_isState_1.s.ctr (fun x => b_IndexFunc_int__i_isState_1.f k x.1))]
noncomputable def b_ContainsFunc_int__i_isState_1.f (k : Nat) (s : List Int) : Option Bool := opq (b_ContainsFunc_int__i_isState_1.s.run Try.prog (b_ContainsFunc_int__i_isState_1.C k) k (s, ()))
theorem b_ContainsFunc_int__i_isState_1.ok (k : Nat) : CtrOk Try.prog 97 (b_ContainsFunc_int__i_isState_1.s.ctr (fun x => b_ContainsFunc_int__i_isState_1.f k x.1)) := sig_ok b_ContainsFunc_int__i_isState_1.s (.cons (b_IndexFunc_int__i_isState_1.ok k) .nil) (by kernel_rfl) fun _ => opq_eq _
theorem b_ContainsFunc_int__i_isState_1.f_eq (k : Nat) (s : List Int) : b_ContainsFunc_int__i_isState_1.f k s =
 (b_IndexFunc_int__i_isState_1.f k s).bind fun d0 =>
 some (decide ((0 : Int) ≤ d0)) := (opq_eq _).trans (by kernel_rfl)
abbrev i_isState.s : Sig := ⟨56, [], [.val], [.one (.row 3 (.int .i64))], [.one .bool], [], []⟩
noncomputable def i_isState.C (k : Nat) : List (Nat × Ctr) := [(97, b_ContainsFunc_int__i_isState_1.s.ctr (fun x => b_ContainsFunc_int__i_isState_1.f k x.1))]
noncomputable def i_isState.f (k : Nat) (values : List Int) : Option Bool := opq (i_isState.s.run Try.prog (i_isState.C k) k values)
theorem i_isState.ok (k : Nat) : CtrOk Try.prog 56 (i_isState.s.ctr (fun x => i_isState.f k x)) := sig_ok i_isState.s (.cons (b_ContainsFunc_int__i_isState_1.ok k) .nil) (by kernel_rfl) fun _ => opq_eq _
theorem i_isState.f_eq (k : Nat) (values : List Int) : i_isState.f k values =
 cn (decide ((↑values.length : Int) = (6 : Int)))
 ((b_ContainsFunc_int__i_isState_1.f k values).bind fun d0 =>
  some (!d0))
 (some false) := (opq_eq _).trans (by kernel_rfl)
abbrev i_heldIn.s : Sig := ⟨91, [], [.val], [.agg [.row 9 .str, .row 9 .str, .row 4 .bool]], [.one (.own 3 (.int .i64))], [], [(0, [(3,true),(8,true),(9,false),(10,false)])]⟩
noncomputable def i_heldIn.C (k : Nat) : List (Nat × Ctr) := []
noncomputable def i_heldIn.f (k : Nat) (d_Plate : List ByteArray) (d_Held : List ByteArray) (d_Bad : List Bool) : Option (List Int) := opq (i_heldIn.s.run Try.prog (i_heldIn.C k) k (d_Plate, d_Held, d_Bad))
theorem i_heldIn.ok (k : Nat) : CtrOk Try.prog 91 (i_heldIn.s.ctr (fun x => i_heldIn.f k x.1 x.2.1 x.2.2)) := sig_ok i_heldIn.s .nil (by kernel_rfl) fun _ => opq_eq _
noncomputable def i_heldIn.l0 (k : Nat) (m : Nat) (t8 : List ByteArray) (t9 : Int) (t10 : Int) (h1 : List Int) : Option (List Int) := i_heldIn.s.head Try.prog (i_heldIn.C k) k 1 0 [] m [(3, AV.ref 1), (8, AV.row 9 Kind.str t8), (9, AV.int IntKind.i64 t9), (10, AV.int IntKind.i64 t10)] [Root.dead, Root.rows 3 (Kind.int IntKind.i64) h1]
theorem i_heldIn.l0_z (k : Nat) (t8 : List ByteArray) (t9 : Int) (t10 : Int) (h1 : List Int) : i_heldIn.l0 k 0 t8 t9 t10 h1 = none := by kernel_rfl
theorem i_heldIn.l0_s (k : Nat) (m : Nat) (t8 : List ByteArray) (t9 : Int) (t10 : Int) (h1 : List Int) : i_heldIn.l0 k (m + 1) t8 t9 t10 h1 =
 cn (decide (t10 < t9))
 (gd (inb t10 t8.length)
  (cn (!decide ((getAt ByteArray.empty t8 t10.toNat).toList = ByteArray.empty.toList))
   (gd (appOk (h1.length + [t10].length) (Try.prog.bytesOf (3 : Nat)))
    (i_heldIn.l0 k m t8 t9 (IntKind.i64.wrap (t10 + (1 : Int))) (h1 ++ [t10])))
   (i_heldIn.l0 k m t8 t9 (IntKind.i64.wrap (t10 + (1 : Int))) h1)))
 (some h1) := by kernel_rfl
theorem i_heldIn.f_eq (k : Nat) (d_Plate : List ByteArray) (d_Held : List ByteArray) (d_Bad : List Bool) : i_heldIn.f k d_Plate d_Held d_Bad =
 i_heldIn.l0 k k d_Held ((↑d_Held.length : Int)) ((0 : Int)) ([]) := (opq_eq _).trans (by kernel_rfl)
abbrev b_Index_int.s : Sig := ⟨133, [], [.val, .val], [.one (.row 3 (.int .i64)), .one (.int .i64)], [.one (.int .i64)], [], [(0, [(0,false),(1,false),(7,false),(8,false)])]⟩
noncomputable def b_Index_int.C (k : Nat) : List (Nat × Ctr) := []
noncomputable def b_Index_int.f (k : Nat) (s : List Int) (v : Int) : Option Int := opq (b_Index_int.s.run Try.prog (b_Index_int.C k) k (s, v))
theorem b_Index_int.ok (k : Nat) : CtrOk Try.prog 133 (b_Index_int.s.ctr (fun x => b_Index_int.f k x.1 x.2)) := sig_ok b_Index_int.s .nil (by kernel_rfl) fun _ => opq_eq _
noncomputable def b_Index_int.l0 (k : Nat) (m : Nat) (s0 : List Int) (v1 : Int) (t7 : Int) (t8 : Int) : Option Int := b_Index_int.s.head Try.prog (b_Index_int.C k) k 1 0 [] m [(0, AV.row 3 (Kind.int IntKind.i64) s0), (1, AV.int IntKind.i64 v1), (7, AV.int IntKind.i64 t7), (8, AV.int IntKind.i64 t8)] [Root.dead]
theorem b_Index_int.l0_z (k : Nat) (s0 : List Int) (v1 : Int) (t7 : Int) (t8 : Int) : b_Index_int.l0 k 0 s0 v1 t7 t8 = none := by kernel_rfl
theorem b_Index_int.l0_s (k : Nat) (m : Nat) (s0 : List Int) (v1 : Int) (t7 : Int) (t8 : Int) : b_Index_int.l0 k (m + 1) s0 v1 t7 t8 =
 cn (decide (t8 < t7))
 (gd (inb t8 s0.length)
  (cn (decide (v1 = getAt (0 : Int) s0 t8.toNat))
   (some t8)
   (b_Index_int.l0 k m s0 v1 t7 (IntKind.i64.wrap (t8 + (1 : Int))))))
 (some ((-1 : Int))) := by kernel_rfl
theorem b_Index_int.f_eq (k : Nat) (s : List Int) (v : Int) : b_Index_int.f k s v =
 b_Index_int.l0 k k s v ((↑s.length : Int)) ((0 : Int)) := (opq_eq _).trans (by kernel_rfl)
abbrev b_Contains_int.s : Sig := ⟨111, [], [.val, .val], [.one (.row 3 (.int .i64)), .one (.int .i64)], [.one .bool], [], []⟩
noncomputable def b_Contains_int.C (k : Nat) : List (Nat × Ctr) := [(133, b_Index_int.s.ctr (fun x => b_Index_int.f k x.1 x.2))]
noncomputable def b_Contains_int.f (k : Nat) (s : List Int) (v : Int) : Option Bool := opq (b_Contains_int.s.run Try.prog (b_Contains_int.C k) k (s, v))
theorem b_Contains_int.ok (k : Nat) : CtrOk Try.prog 111 (b_Contains_int.s.ctr (fun x => b_Contains_int.f k x.1 x.2)) := sig_ok b_Contains_int.s (.cons (b_Index_int.ok k) .nil) (by kernel_rfl) fun _ => opq_eq _
theorem b_Contains_int.f_eq (k : Nat) (s : List Int) (v : Int) : b_Contains_int.f k s v =
 (b_Index_int.f k s v).bind fun d0 =>
 some (decide ((0 : Int) ≤ d0)) := (opq_eq _).trans (by kernel_rfl)
abbrev i_crashed.s : Sig := ⟨84, [], [.val, .val], [.agg [.row 9 .str, .row 9 .str, .row 4 .bool], .one (.row 3 (.int .i64))], [.agg [.own 9 .str, .own 9 .str, .own 4 .bool]], [], [(0, [(1,false),(4,false),(5,false),(11,false),(12,false)])]⟩
noncomputable def i_crashed.C (k : Nat) : List (Nat × Ctr) := [(110, i_ownDisk.s.ctr (fun x => i_ownDisk.f k x.1 x.2.1 x.2.2)), (111, b_Contains_int.s.ctr (fun x => b_Contains_int.f k x.1 x.2))]
noncomputable def i_crashed.f (k : Nat) (d_Plate : List ByteArray) (d_Held : List ByteArray) (d_Bad : List Bool) (kept : List Int) : Option (List ByteArray × List ByteArray × List Bool) := opq (i_crashed.s.run Try.prog (i_crashed.C k) k ((d_Plate, d_Held, d_Bad), kept))
theorem i_crashed.ok (k : Nat) : CtrOk Try.prog 84 (i_crashed.s.ctr (fun x => i_crashed.f k x.1.1 x.1.2.1 x.1.2.2 x.2)) := sig_ok i_crashed.s (.cons (i_ownDisk.ok k) (.cons (b_Contains_int.ok k) .nil)) (by kernel_rfl) fun _ => opq_eq _
noncomputable def i_crashed.l0 (k : Nat) (m : Nat) (kept1 : List Int) (t11 : Int) (t12 : Int) (h2 : List ByteArray) (h3 : List ByteArray) (h4 : List Bool) : Option (List ByteArray × List ByteArray × List Bool) := i_crashed.s.head Try.prog (i_crashed.C k) k 1 0 [] m [(1, AV.row 3 (Kind.int IntKind.i64) kept1), (4, AV.ptr 1 0 0), (5, AV.ptr 5 0 0), (11, AV.int IntKind.i64 t11), (12, AV.int IntKind.i64 t12)] [Root.dead, Root.box 38 [AV.nil 9 Kind.str, AV.nil 9 Kind.str, AV.nil 4 Kind.bool], Root.rows 9 Kind.str h2, Root.rows 9 Kind.str h3, Root.rows 4 Kind.bool h4, Root.box 38 [AV.ref 2, AV.ref 3, AV.ref 4]]
theorem i_crashed.l0_z (k : Nat) (kept1 : List Int) (t11 : Int) (t12 : Int) (h2 : List ByteArray) (h3 : List ByteArray) (h4 : List Bool) : i_crashed.l0 k 0 kept1 t11 t12 h2 h3 h4 = none := by kernel_rfl
theorem i_crashed.l0_s (k : Nat) (m : Nat) (kept1 : List Int) (t11 : Int) (t12 : Int) (h2 : List ByteArray) (h3 : List ByteArray) (h4 : List Bool) : i_crashed.l0 k (m + 1) kept1 t11 t12 h2 h3 h4 =
 cn (decide (t12 < t11))
 ((b_Contains_int.f k kept1 t12).bind fun d1 =>
  cn d1
  (gd (inb t12 h3.length)
   (gd (inb t12 h2.length)
    (gd (inb t12 h3.length)
     (i_crashed.l0 k m kept1 t11 (IntKind.i64.wrap (t12 + (1 : Int))) (h2.set t12.toNat (getAt ByteArray.empty h3 t12.toNat)) (h3.set t12.toNat ByteArray.empty) h4))))
  (gd (inb t12 h3.length)
   (i_crashed.l0 k m kept1 t11 (IntKind.i64.wrap (t12 + (1 : Int))) h2 (h3.set t12.toNat ByteArray.empty) h4)))
 (some ((h2, h3, h4))) := by kernel_rfl
theorem i_crashed.f_eq (k : Nat) (d_Plate : List ByteArray) (d_Held : List ByteArray) (d_Bad : List Bool) (kept : List Int) : i_crashed.f k d_Plate d_Held d_Bad kept =
 (i_ownDisk.f k d_Plate d_Held d_Bad).bind fun d0 =>
 i_crashed.l0 k k kept ((↑d0.snd.fst.length : Int)) ((0 : Int)) d0.fst d0.snd.fst d0.snd.snd := (opq_eq _).trans (by kernel_rfl)
abbrev i_isRising.s : Sig := ⟨121, [], [.val, .val], [.one (.row 3 (.int .i64)), .one (.int .i64)], [.one .bool], [], [(0, [(0,false),(1,false),(7,true),(8,false),(9,false)])]⟩
noncomputable def i_isRising.C (k : Nat) : List (Nat × Ctr) := [(83, i_within.s.ctr (fun x => i_within.f k x.1 x.2.1 x.2.2))]
noncomputable def i_isRising.f (k : Nat) (list : List Int) (below : Int) : Option Bool := opq (i_isRising.s.run Try.prog (i_isRising.C k) k (list, below))
theorem i_isRising.ok (k : Nat) : CtrOk Try.prog 121 (i_isRising.s.ctr (fun x => i_isRising.f k x.1 x.2)) := sig_ok i_isRising.s (.cons (i_within.ok k) .nil) (by kernel_rfl) fun _ => opq_eq _
noncomputable def i_isRising.l0 (k : Nat) (m : Nat) (list0 : List Int) (below1 : Int) (t7 : List Int) (t8 : Int) (t9 : Int) : Option Bool := i_isRising.s.head Try.prog (i_isRising.C k) k 1 0 [] m [(0, AV.row 3 (Kind.int IntKind.i64) list0), (1, AV.int IntKind.i64 below1), (7, AV.row 3 (Kind.int IntKind.i64) t7), (8, AV.int IntKind.i64 t8), (9, AV.int IntKind.i64 t9)] [Root.dead]
theorem i_isRising.l0_z (k : Nat) (list0 : List Int) (below1 : Int) (t7 : List Int) (t8 : Int) (t9 : Int) : i_isRising.l0 k 0 list0 below1 t7 t8 t9 = none := by kernel_rfl
theorem i_isRising.l0_s (k : Nat) (m : Nat) (list0 : List Int) (below1 : Int) (t7 : List Int) (t8 : Int) (t9 : Int) : i_isRising.l0 k (m + 1) list0 below1 t7 t8 t9 =
 cn (decide (t9 < t8))
 (gd (inb t9 t7.length)
  ((i_within.f k (getAt (0 : Int) t7 t9.toNat) (0 : Int) (IntKind.i64.wrap (below1 - (1 : Int)))).bind fun d0 =>
   cn (!d0)
   (some false)
   (cn (decide ((0 : Int) < t9))
    (gd (inb (IntKind.i64.wrap (t9 - (1 : Int))) list0.length)
     (cn (decide (getAt (0 : Int) t7 t9.toNat ≤ getAt (0 : Int) list0 (IntKind.i64.wrap (t9 - (1 : Int))).toNat))
      (some false)
      (i_isRising.l0 k m list0 below1 t7 t8 (IntKind.i64.wrap (t9 + (1 : Int))))))
    (i_isRising.l0 k m list0 below1 t7 t8 (IntKind.i64.wrap (t9 + (1 : Int)))))))
 (some true) := by kernel_rfl
theorem i_isRising.f_eq (k : Nat) (list : List Int) (below : Int) : i_isRising.f k list below =
 i_isRising.l0 k k list below list ((↑list.length : Int)) ((0 : Int)) := (opq_eq _).trans (by kernel_rfl)
abbrev i_areHeld_1.s : Sig := ⟨122, [], [.val, .pbox 38], [.one (.int .i64), .agg [.row 9 .str, .row 9 .str, .row 4 .bool]], [.one .bool], [.box 38 [.row 9 .str, .row 9 .str, .row 4 .bool]], []⟩
noncomputable def i_areHeld_1.C (k : Nat) : List (Nat × Ctr) := []
noncomputable def i_areHeld_1.f (k : Nat) (at_ : Int) (free_c0_Plate : List ByteArray) (free_c0_Held : List ByteArray) (free_c0_Bad : List Bool) : Option (Bool × (List ByteArray × List ByteArray × List Bool)) := opq (i_areHeld_1.s.run Try.prog (i_areHeld_1.C k) k (at_, (free_c0_Plate, free_c0_Held, free_c0_Bad)))
theorem i_areHeld_1.ok (k : Nat) : CtrOk Try.prog 122 (i_areHeld_1.s.ctr (fun x => i_areHeld_1.f k x.1 x.2.1 x.2.2.1 x.2.2.2)) := sig_ok i_areHeld_1.s .nil (by kernel_rfl) fun _ => opq_eq _
theorem i_areHeld_1.f_eq (k : Nat) (at_ : Int) (free_c0_Plate : List ByteArray) (free_c0_Held : List ByteArray) (free_c0_Bad : List Bool) : i_areHeld_1.f k at_ free_c0_Plate free_c0_Held free_c0_Bad =
 gd (inb at_ free_c0_Held.length)
 (some ((decide ((getAt ByteArray.empty free_c0_Held at_.toNat).toList = ByteArray.empty.toList), free_c0_Plate, free_c0_Held, free_c0_Bad))) := (opq_eq _).trans (by kernel_rfl)
abbrev b_IndexFunc_int__i_areHeld_1.s : Sig := ⟨123, [.one, .clo 122 1], [.val, .pbox 38], [.one (.row 3 (.int .i64)), .agg [.row 9 .str, .row 9 .str, .row 4 .bool]], [.one (.int .i64)], [.box 38 [.row 9 .str, .row 9 .str, .row 4 .bool]], [(0, [(0,false),(1,false),(7,false),(8,false)])]⟩
noncomputable def b_IndexFunc_int__i_areHeld_1.C (k : Nat) : List (Nat × Ctr) := [(122, i_areHeld_1.s.ctr (fun x => i_areHeld_1.f k x.1 x.2.1 x.2.2.1 x.2.2.2))]
noncomputable def b_IndexFunc_int__i_areHeld_1.f (k : Nat) (s : List Int) (f_c0_Plate : List ByteArray) (f_c0_Held : List ByteArray) (f_c0_Bad : List Bool) : Option (Int × (List ByteArray × List ByteArray × List Bool)) := opq (b_IndexFunc_int__i_areHeld_1.s.run Try.prog (b_IndexFunc_int__i_areHeld_1.C k) k (s, (f_c0_Plate, f_c0_Held, f_c0_Bad)))
theorem b_IndexFunc_int__i_areHeld_1.ok (k : Nat) : CtrOk Try.prog 123 (b_IndexFunc_int__i_areHeld_1.s.ctr (fun x => b_IndexFunc_int__i_areHeld_1.f k x.1 x.2.1 x.2.2.1 x.2.2.2)) := sig_ok b_IndexFunc_int__i_areHeld_1.s (.cons (i_areHeld_1.ok k) .nil) (by kernel_rfl) fun _ => opq_eq _
noncomputable def b_IndexFunc_int__i_areHeld_1.l0 (k : Nat) (m : Nat) (s0 : List Int) (t7 : Int) (t8 : Int) (h1 : List ByteArray) (h1_ : List ByteArray) (h1__ : List Bool) : Option (Int × (List ByteArray × List ByteArray × List Bool)) := b_IndexFunc_int__i_areHeld_1.s.head Try.prog (b_IndexFunc_int__i_areHeld_1.C k) k 2 0 [] m [(0, AV.row 3 (Kind.int IntKind.i64) s0), (1, AV.clo 122 [AV.ptr 1 0 0]), (7, AV.int IntKind.i64 t7), (8, AV.int IntKind.i64 t8)] [Root.dead, Root.box 38 [AV.row 9 Kind.str h1, AV.row 9 Kind.str h1_, AV.row 4 Kind.bool h1__]]
theorem b_IndexFunc_int__i_areHeld_1.l0_z (k : Nat) (s0 : List Int) (t7 : Int) (t8 : Int) (h1 : List ByteArray) (h1_ : List ByteArray) (h1__ : List Bool) : b_IndexFunc_int__i_areHeld_1.l0 k 0 s0 t7 t8 h1 h1_ h1__ = none := by kernel_rfl
theorem b_IndexFunc_int__i_areHeld_1.l0_s (k : Nat) (m : Nat) (s0 : List Int) (t7 : Int) (t8 : Int) (h1 : List ByteArray) (h1_ : List ByteArray) (h1__ : List Bool) : b_IndexFunc_int__i_areHeld_1.l0 k (m + 1) s0 t7 t8 h1 h1_ h1__ =
 cn (decide (t8 < t7))
 (gd (inb t8 s0.length)
  ((i_areHeld_1.f k (getAt (0 : Int) s0 t8.toNat) h1 h1_ h1__).bind fun d0 =>
   cn d0.fst
   (some ((t8, d0.snd.fst, d0.snd.snd.fst, d0.snd.snd.snd)))
   (b_IndexFunc_int__i_areHeld_1.l0 k m s0 t7 (IntKind.i64.wrap (t8 + (1 : Int))) d0.snd.fst d0.snd.snd.fst d0.snd.snd.snd)))
 (some (((-1 : Int), h1, h1_, h1__))) := by kernel_rfl
theorem b_IndexFunc_int__i_areHeld_1.f_eq (k : Nat) (s : List Int) (f_c0_Plate : List ByteArray) (f_c0_Held : List ByteArray) (f_c0_Bad : List Bool) : b_IndexFunc_int__i_areHeld_1.f k s f_c0_Plate f_c0_Held f_c0_Bad =
 b_IndexFunc_int__i_areHeld_1.l0 k k s ((↑s.length : Int)) ((0 : Int)) f_c0_Plate f_c0_Held f_c0_Bad := (opq_eq _).trans (by kernel_rfl)
abbrev b_ContainsFunc_int__i_areHeld_1.s : Sig := ⟨97, [.one, .clo 122 1], [.val, .pbox 38], [.one (.row 3 (.int .i64)), .agg [.row 9 .str, .row 9 .str, .row 4 .bool]], [.one .bool], [.box 38 [.row 9 .str, .row 9 .str, .row 4 .bool]], []⟩
noncomputable def b_ContainsFunc_int__i_areHeld_1.C (k : Nat) : List (Nat × Ctr) := [(123, b_IndexFunc_int__i_areHeld_1.s.ctr (fun x => b_IndexFunc_int__i_areHeld_1.f k x.1 x.2.1 x.2.2.1 x.2.2.2))]
noncomputable def b_ContainsFunc_int__i_areHeld_1.f (k : Nat) (s : List Int) (f_c0_Plate : List ByteArray) (f_c0_Held : List ByteArray) (f_c0_Bad : List Bool) : Option (Bool × (List ByteArray × List ByteArray × List Bool)) := opq (b_ContainsFunc_int__i_areHeld_1.s.run Try.prog (b_ContainsFunc_int__i_areHeld_1.C k) k (s, (f_c0_Plate, f_c0_Held, f_c0_Bad)))
theorem b_ContainsFunc_int__i_areHeld_1.ok (k : Nat) : CtrOk Try.prog 97 (b_ContainsFunc_int__i_areHeld_1.s.ctr (fun x => b_ContainsFunc_int__i_areHeld_1.f k x.1 x.2.1 x.2.2.1 x.2.2.2)) := sig_ok b_ContainsFunc_int__i_areHeld_1.s (.cons (b_IndexFunc_int__i_areHeld_1.ok k) .nil) (by kernel_rfl) fun _ => opq_eq _
theorem b_ContainsFunc_int__i_areHeld_1.f_eq (k : Nat) (s : List Int) (f_c0_Plate : List ByteArray) (f_c0_Held : List ByteArray) (f_c0_Bad : List Bool) : b_ContainsFunc_int__i_areHeld_1.f k s f_c0_Plate f_c0_Held f_c0_Bad =
 (b_IndexFunc_int__i_areHeld_1.f k s f_c0_Plate f_c0_Held f_c0_Bad).bind fun d0 =>
 some ((decide ((0 : Int) ≤ d0.fst), d0.snd.fst, d0.snd.snd.fst, d0.snd.snd.snd)) := (opq_eq _).trans (by kernel_rfl)
abbrev i_areHeld.s : Sig := ⟨92, [], [.val, .val], [.agg [.row 9 .str, .row 9 .str, .row 4 .bool], .one (.row 3 (.int .i64))], [.one .bool], [], []⟩
noncomputable def i_areHeld.C (k : Nat) : List (Nat × Ctr) := [(121, i_isRising.s.ctr (fun x => i_isRising.f k x.1 x.2)), (97, b_ContainsFunc_int__i_areHeld_1.s.ctr (fun x => b_ContainsFunc_int__i_areHeld_1.f k x.1 x.2.1 x.2.2.1 x.2.2.2))]
noncomputable def i_areHeld.f (k : Nat) (d_Plate : List ByteArray) (d_Held : List ByteArray) (d_Bad : List Bool) (kept : List Int) : Option Bool := opq (i_areHeld.s.run Try.prog (i_areHeld.C k) k ((d_Plate, d_Held, d_Bad), kept))
theorem i_areHeld.ok (k : Nat) : CtrOk Try.prog 92 (i_areHeld.s.ctr (fun x => i_areHeld.f k x.1.1 x.1.2.1 x.1.2.2 x.2)) := sig_ok i_areHeld.s (.cons (i_isRising.ok k) (.cons (b_ContainsFunc_int__i_areHeld_1.ok k) .nil)) (by kernel_rfl) fun _ => opq_eq _
theorem i_areHeld.f_eq (k : Nat) (d_Plate : List ByteArray) (d_Held : List ByteArray) (d_Bad : List Bool) (kept : List Int) : i_areHeld.f k d_Plate d_Held d_Bad kept =
 (i_isRising.f k kept (↑d_Plate.length : Int)).bind fun d0 =>
 cn d0
 ((b_ContainsFunc_int__i_areHeld_1.f k kept d_Plate d_Held d_Bad).bind fun d1 =>
  some (!d1.fst))
 (some false) := (opq_eq _).trans (by kernel_rfl)
abbrev i_GoodDisk.s : Sig := ⟨74, [], [.val], [.agg [.row 9 .str, .row 9 .str, .row 4 .bool]], [.one .bool], [], [(0, [(1,false),(27,true),(28,false),(29,false)])]⟩
noncomputable def i_GoodDisk.C (k : Nat) : List (Nat × Ctr) := [(83, i_within.s.ctr (fun x => i_within.f k x.1 x.2.1 x.2.2))]
noncomputable def i_GoodDisk.f (k : Nat) (d_Plate : List ByteArray) (d_Held : List ByteArray) (d_Bad : List Bool) : Option Bool := opq (i_GoodDisk.s.run Try.prog (i_GoodDisk.C k) k (d_Plate, d_Held, d_Bad))
theorem i_GoodDisk.ok (k : Nat) : CtrOk Try.prog 74 (i_GoodDisk.s.ctr (fun x => i_GoodDisk.f k x.1 x.2.1 x.2.2)) := sig_ok i_GoodDisk.s (.cons (i_within.ok k) .nil) (by kernel_rfl) fun _ => opq_eq _
noncomputable def i_GoodDisk.l0 (k : Nat) (m : Nat) (t27 : List ByteArray) (t28 : Int) (t29 : Int) (h1 : List ByteArray) (h1_ : List ByteArray) (h1__ : List Bool) : Option Bool := i_GoodDisk.s.head Try.prog (i_GoodDisk.C k) k 1 0 [] m [(1, AV.ptr 1 0 0), (27, AV.row 9 Kind.str t27), (28, AV.int IntKind.i64 t28), (29, AV.int IntKind.i64 t29)] [Root.dead, Root.box 38 [AV.row 9 Kind.str h1, AV.row 9 Kind.str h1_, AV.row 4 Kind.bool h1__]]
theorem i_GoodDisk.l0_z (k : Nat) (t27 : List ByteArray) (t28 : Int) (t29 : Int) (h1 : List ByteArray) (h1_ : List ByteArray) (h1__ : List Bool) : i_GoodDisk.l0 k 0 t27 t28 t29 h1 h1_ h1__ = none := by kernel_rfl
theorem i_GoodDisk.l0_s (k : Nat) (m : Nat) (t27 : List ByteArray) (t28 : Int) (t29 : Int) (h1 : List ByteArray) (h1_ : List ByteArray) (h1__ : List Bool) : i_GoodDisk.l0 k (m + 1) t27 t28 t29 h1 h1_ h1__ =
 cn (decide (t29 < t28))
 (gd (inb t29 t27.length)
  (cn (decide ((28 : Int) < (↑(getAt ByteArray.empty t27 t29.toNat).size : Int)))
   (some false)
   (gd (inb t29 h1_.length)
    (cn (decide ((28 : Int) < (↑(getAt ByteArray.empty h1_ t29.toNat).size : Int)))
     (some false)
     (gd (inb t29 h1__.length)
      (cn (getAt false h1__ t29.toNat)
       (gd (inb t29 h1_.length)
        (cn (!decide ((getAt ByteArray.empty h1_ t29.toNat).toList = ByteArray.empty.toList))
         (some false)
         (i_GoodDisk.l0 k m t27 t28 (IntKind.i64.wrap (t29 + (1 : Int))) h1 h1_ h1__)))
       (i_GoodDisk.l0 k m t27 t28 (IntKind.i64.wrap (t29 + (1 : Int))) h1 h1_ h1__)))))))
 (some true) := by kernel_rfl
theorem i_GoodDisk.f_eq (k : Nat) (d_Plate : List ByteArray) (d_Held : List ByteArray) (d_Bad : List Bool) : i_GoodDisk.f k d_Plate d_Held d_Bad =
 (i_within.f k (↑d_Plate.length : Int) (1 : Int) (24 : Int)).bind fun d0 =>
 cn (!d0)
 (some false)
 (cn (!decide ((↑d_Held.length : Int) = (↑d_Plate.length : Int)))
  (some false)
  (cn (!decide ((↑d_Bad.length : Int) = (↑d_Plate.length : Int)))
   (some false)
   (i_GoodDisk.l0 k k d_Plate ((↑d_Plate.length : Int)) ((0 : Int)) d_Plate d_Held d_Bad))) := (opq_eq _).trans (by kernel_rfl)
abbrev i_Disk_has.s : Sig := ⟨107, [], [.val, .val], [.agg [.row 9 .str, .row 9 .str, .row 4 .bool], .one (.int .i64)], [.one .bool], [], []⟩
noncomputable def i_Disk_has.C (k : Nat) : List (Nat × Ctr) := [(83, i_within.s.ctr (fun x => i_within.f k x.1 x.2.1 x.2.2))]
noncomputable def i_Disk_has.f (k : Nat) (d_Plate : List ByteArray) (d_Held : List ByteArray) (d_Bad : List Bool) (at_ : Int) : Option Bool := opq (i_Disk_has.s.run Try.prog (i_Disk_has.C k) k ((d_Plate, d_Held, d_Bad), at_))
theorem i_Disk_has.ok (k : Nat) : CtrOk Try.prog 107 (i_Disk_has.s.ctr (fun x => i_Disk_has.f k x.1.1 x.1.2.1 x.1.2.2 x.2)) := sig_ok i_Disk_has.s (.cons (i_within.ok k) .nil) (by kernel_rfl) fun _ => opq_eq _
theorem i_Disk_has.f_eq (k : Nat) (d_Plate : List ByteArray) (d_Held : List ByteArray) (d_Bad : List Bool) (at_ : Int) : i_Disk_has.f k d_Plate d_Held d_Bad at_ =
 (i_within.f k at_ (0 : Int) (IntKind.i64.wrap ((↑d_Plate.length : Int) - (1 : Int)))).bind fun d0 =>
 some d0 := (opq_eq _).trans (by kernel_rfl)
abbrev i_ReadSector.s : Sig := ⟨75, [], [.val, .val], [.agg [.row 9 .str, .row 9 .str, .row 4 .bool], .one (.int .i64)], [.one .str, .one .bool], [], []⟩
noncomputable def i_ReadSector.C (k : Nat) : List (Nat × Ctr) := [(107, i_Disk_has.s.ctr (fun x => i_Disk_has.f k x.1.1 x.1.2.1 x.1.2.2 x.2)), (74, i_GoodDisk.s.ctr (fun x => i_GoodDisk.f k x.1 x.2.1 x.2.2))]
noncomputable def i_ReadSector.f (k : Nat) (d_Plate : List ByteArray) (d_Held : List ByteArray) (d_Bad : List Bool) (at_ : Int) : Option (ByteArray × Bool) := opq (i_ReadSector.s.run Try.prog (i_ReadSector.C k) k ((d_Plate, d_Held, d_Bad), at_))
theorem i_ReadSector.ok (k : Nat) : CtrOk Try.prog 75 (i_ReadSector.s.ctr (fun x => i_ReadSector.f k x.1.1 x.1.2.1 x.1.2.2 x.2)) := sig_ok i_ReadSector.s (.cons (i_Disk_has.ok k) (.cons (i_GoodDisk.ok k) .nil)) (by kernel_rfl) fun _ => opq_eq _
theorem i_ReadSector.f_eq (k : Nat) (d_Plate : List ByteArray) (d_Held : List ByteArray) (d_Bad : List Bool) (at_ : Int) : i_ReadSector.f k d_Plate d_Held d_Bad at_ =
 (i_GoodDisk.f k d_Plate d_Held d_Bad).bind fun d0 =>
 cn (!d0)
 (some ((ByteArray.empty, false)))
 ((i_Disk_has.f k d_Plate d_Held d_Bad at_).bind fun d1 =>
  cn (!d1)
  (some ((ByteArray.empty, false)))
  (gd (inb at_ d_Bad.length)
   (cn (getAt false d_Bad at_.toNat)
    (some ((ByteArray.empty, false)))
    (gd (inb at_ d_Held.length)
     (cn (!decide ((getAt ByteArray.empty d_Held at_.toNat).toList = ByteArray.empty.toList))
      (gd (inb at_ d_Held.length)
       (some ((getAt ByteArray.empty d_Held at_.toNat, true))))
      (gd (inb at_ d_Plate.length)
       (some ((getAt ByteArray.empty d_Plate at_.toNat, true))))))))) := (opq_eq _).trans (by kernel_rfl)
abbrev i_GoodFrame.s : Sig := ⟨130, [], [.val], [.agg [.int .i64, .int .i64, .int .i64, .str]], [.one .bool], [], []⟩
noncomputable def i_GoodFrame.C (k : Nat) : List (Nat × Ctr) := [(83, i_within.s.ctr (fun x => i_within.f k x.1 x.2.1 x.2.2))]
noncomputable def i_GoodFrame.f (k : Nat) (f_Kind : Int) (f_At : Int) (f_Epoch : Int) (f_Body : ByteArray) : Option Bool := opq (i_GoodFrame.s.run Try.prog (i_GoodFrame.C k) k (f_Kind, f_At, f_Epoch, f_Body))
theorem i_GoodFrame.ok (k : Nat) : CtrOk Try.prog 130 (i_GoodFrame.s.ctr (fun x => i_GoodFrame.f k x.1 x.2.1 x.2.2.1 x.2.2.2)) := sig_ok i_GoodFrame.s (.cons (i_within.ok k) .nil) (by kernel_rfl) fun _ => opq_eq _
theorem i_GoodFrame.f_eq (k : Nat) (f_Kind : Int) (f_At : Int) (f_Epoch : Int) (f_Body : ByteArray) : i_GoodFrame.f k f_Kind f_At f_Epoch f_Body =
 (i_within.f k f_Kind (1 : Int) (255 : Int)).bind fun d0 =>
 cn d0
 ((i_within.f k f_At (0 : Int) (60000 : Int)).bind fun d1 =>
  cn d1
  ((i_within.f k f_Epoch (0 : Int) (60000 : Int)).bind fun d2 =>
   cn d2
   (some (decide ((↑f_Body.size : Int) ≤ (16 : Int))))
   (some false))
  (some false))
 (some false) := (opq_eq _).trans (by kernel_rfl)
abbrev i_ReadFrame.s : Sig := ⟨108, [], [.val], [.one .str], [.agg [.int .i64, .int .i64, .int .i64, .str], .one (.int .i64), .one .bool], [], []⟩
noncomputable def i_ReadFrame.C (k : Nat) : List (Nat × Ctr) := [(104, i_frameBytes.s.ctr (fun x => i_frameBytes.f k x.1 x.2.1 x.2.2.1 x.2.2.2)), (128, i_sumOn.s.ctr (fun x => i_sumOn.f k x.1 x.2)), (130, i_GoodFrame.s.ctr (fun x => i_GoodFrame.f k x.1 x.2.1 x.2.2.1 x.2.2.2))]
noncomputable def i_ReadFrame.f (k : Nat) (s : ByteArray) : Option ((Int × Int × Int × ByteArray) × Int × Bool) := opq (i_ReadFrame.s.run Try.prog (i_ReadFrame.C k) k s)
theorem i_ReadFrame.ok (k : Nat) : CtrOk Try.prog 108 (i_ReadFrame.s.ctr (fun x => i_ReadFrame.f k x)) := sig_ok i_ReadFrame.s (.cons (i_frameBytes.ok k) (.cons (i_sumOn.ok k) (.cons (i_GoodFrame.ok k) .nil))) (by kernel_rfl) fun _ => opq_eq _
theorem i_ReadFrame.f_eq (k : Nat) (s : ByteArray) : i_ReadFrame.f k s =
 cn (!decide ((↑s.size : Int) = (28 : Int)))
 (some ((((0 : Int), (0 : Int), (0 : Int), ByteArray.empty), (1 : Int), false)))
 (gd (true && decide ((24 : Int) ≤ (↑s.size : Int)))
  ((i_sumOn.f k (0 : Int) (s.extract (0 : Nat) (24 : Nat))).bind fun d0 =>
   gd (true && decide ((24 : Int) ≤ (↑s.size : Int)))
   (cn (!decide ((s.extract (24 : Nat) s.size).toList = (strOfNums [IntKind.u8.wrap d0, IntKind.u8.wrap (Int.fdiv d0 ((2 : Int) ^ (8 : Nat))), IntKind.u8.wrap (Int.fdiv d0 ((2 : Int) ^ (16 : Nat))), IntKind.u8.wrap (Int.fdiv d0 ((2 : Int) ^ (24 : Nat)))]).toList))
    (some ((((0 : Int), (0 : Int), (0 : Int), ByteArray.empty), (2 : Int), false)))
    (gd (inb (0 : Int) s.size)
     (gd (inb (1 : Int) s.size)
      (gd (inb (2 : Int) s.size)
       (gd (inb (3 : Int) s.size)
        (gd (inb (4 : Int) s.size)
         (gd (inb (5 : Int) s.size)
          (gd (true && (decide ((6 : Int) ≤ IntKind.i64.wrap ((6 : Int) + cn (decide (IntKind.i64.wrap (↑(s.data.getD (5 : Nat) (0 : UInt8)).toNat : Int) < (16 : Int))) (IntKind.i64.wrap (↑(s.data.getD (5 : Nat) (0 : UInt8)).toNat : Int)) (16 : Int))) && decide (IntKind.i64.wrap ((6 : Int) + cn (decide (IntKind.i64.wrap (↑(s.data.getD (5 : Nat) (0 : UInt8)).toNat : Int) < (16 : Int))) (IntKind.i64.wrap (↑(s.data.getD (5 : Nat) (0 : UInt8)).toNat : Int)) (16 : Int)) ≤ (↑s.size : Int))))
           ((i_GoodFrame.f k (IntKind.i64.wrap (↑(s.data.getD (0 : Nat) (0 : UInt8)).toNat : Int)) (IntKind.i64.wrap (↑(BitVec.ofInt (64 : Nat) (IntKind.i64.wrap (IntKind.i64.wrap (↑(s.data.getD (1 : Nat) (0 : UInt8)).toNat : Int) * (2 : Int) ^ (8 : Nat))) ||| BitVec.ofInt (64 : Nat) (IntKind.i64.wrap (↑(s.data.getD (2 : Nat) (0 : UInt8)).toNat : Int))).toNat : Int)) (IntKind.i64.wrap (↑(BitVec.ofInt (64 : Nat) (IntKind.i64.wrap (IntKind.i64.wrap (↑(s.data.getD (3 : Nat) (0 : UInt8)).toNat : Int) * (2 : Int) ^ (8 : Nat))) ||| BitVec.ofInt (64 : Nat) (IntKind.i64.wrap (↑(s.data.getD (4 : Nat) (0 : UInt8)).toNat : Int))).toNat : Int)) (s.extract (6 : Nat) (IntKind.i64.wrap ((6 : Int) + cn (decide (IntKind.i64.wrap (↑(s.data.getD (5 : Nat) (0 : UInt8)).toNat : Int) < (16 : Int))) (IntKind.i64.wrap (↑(s.data.getD (5 : Nat) (0 : UInt8)).toNat : Int)) (16 : Int))).toNat)).bind fun d1 =>
            cn (!d1)
            (some ((((0 : Int), (0 : Int), (0 : Int), ByteArray.empty), (3 : Int), false)))
            ((i_frameBytes.f k (IntKind.i64.wrap (↑(s.data.getD (0 : Nat) (0 : UInt8)).toNat : Int)) (IntKind.i64.wrap (↑(BitVec.ofInt (64 : Nat) (IntKind.i64.wrap (IntKind.i64.wrap (↑(s.data.getD (1 : Nat) (0 : UInt8)).toNat : Int) * (2 : Int) ^ (8 : Nat))) ||| BitVec.ofInt (64 : Nat) (IntKind.i64.wrap (↑(s.data.getD (2 : Nat) (0 : UInt8)).toNat : Int))).toNat : Int)) (IntKind.i64.wrap (↑(BitVec.ofInt (64 : Nat) (IntKind.i64.wrap (IntKind.i64.wrap (↑(s.data.getD (3 : Nat) (0 : UInt8)).toNat : Int) * (2 : Int) ^ (8 : Nat))) ||| BitVec.ofInt (64 : Nat) (IntKind.i64.wrap (↑(s.data.getD (4 : Nat) (0 : UInt8)).toNat : Int))).toNat : Int)) (s.extract (6 : Nat) (IntKind.i64.wrap ((6 : Int) + cn (decide (IntKind.i64.wrap (↑(s.data.getD (5 : Nat) (0 : UInt8)).toNat : Int) < (16 : Int))) (IntKind.i64.wrap (↑(s.data.getD (5 : Nat) (0 : UInt8)).toNat : Int)) (16 : Int))).toNat)).bind fun d2 =>
             cn (!decide (ByteArray.toList d2 = s.toList))
             (some ((((0 : Int), (0 : Int), (0 : Int), ByteArray.empty), (3 : Int), false)))
             (some (((IntKind.i64.wrap (↑(s.data.getD (0 : Nat) (0 : UInt8)).toNat : Int), IntKind.i64.wrap (↑(BitVec.ofInt (64 : Nat) (IntKind.i64.wrap (IntKind.i64.wrap (↑(s.data.getD (1 : Nat) (0 : UInt8)).toNat : Int) * (2 : Int) ^ (8 : Nat))) ||| BitVec.ofInt (64 : Nat) (IntKind.i64.wrap (↑(s.data.getD (2 : Nat) (0 : UInt8)).toNat : Int))).toNat : Int), IntKind.i64.wrap (↑(BitVec.ofInt (64 : Nat) (IntKind.i64.wrap (IntKind.i64.wrap (↑(s.data.getD (3 : Nat) (0 : UInt8)).toNat : Int) * (2 : Int) ^ (8 : Nat))) ||| BitVec.ofInt (64 : Nat) (IntKind.i64.wrap (↑(s.data.getD (4 : Nat) (0 : UInt8)).toNat : Int))).toNat : Int), s.extract (6 : Nat) (IntKind.i64.wrap ((6 : Int) + cn (decide (IntKind.i64.wrap (↑(s.data.getD (5 : Nat) (0 : UInt8)).toNat : Int) < (16 : Int))) (IntKind.i64.wrap (↑(s.data.getD (5 : Nat) (0 : UInt8)).toNat : Int)) (16 : Int))).toNat), (0 : Int), true))))))))))))))) := (opq_eq _).trans (by kernel_rfl)
abbrev i_CheckFrame.s : Sig := ⟨76, [], [.val, .val, .val, .val], [.one .str, .one (.int .i64), .one (.int .i64), .one (.int .i64)], [.agg [.int .i64, .int .i64, .int .i64, .str], .one (.int .i64), .one .bool], [], []⟩
noncomputable def i_CheckFrame.C (k : Nat) : List (Nat × Ctr) := [(108, i_ReadFrame.s.ctr (fun x => i_ReadFrame.f k x))]
noncomputable def i_CheckFrame.f (k : Nat) (s : ByteArray) (kind : Int) (at_ : Int) (least : Int) : Option ((Int × Int × Int × ByteArray) × Int × Bool) := opq (i_CheckFrame.s.run Try.prog (i_CheckFrame.C k) k (s, kind, at_, least))
theorem i_CheckFrame.ok (k : Nat) : CtrOk Try.prog 76 (i_CheckFrame.s.ctr (fun x => i_CheckFrame.f k x.1 x.2.1 x.2.2.1 x.2.2.2)) := sig_ok i_CheckFrame.s (.cons (i_ReadFrame.ok k) .nil) (by kernel_rfl) fun _ => opq_eq _
theorem i_CheckFrame.f_eq (k : Nat) (s : ByteArray) (kind : Int) (at_ : Int) (least : Int) : i_CheckFrame.f k s kind at_ least =
 (i_ReadFrame.f k s).bind fun d0 =>
 cn (!d0.snd.snd)
 (cn (!decide (d0.snd.fst = (0 : Int)))
  (some ((((0 : Int), (0 : Int), (0 : Int), ByteArray.empty), d0.snd.fst, false)))
  (some (((d0.fst.fst, d0.fst.snd.fst, d0.fst.snd.snd.fst, d0.fst.snd.snd.snd), (0 : Int), true))))
 (cn (!decide (d0.fst.fst = kind))
  (some ((((0 : Int), (0 : Int), (0 : Int), ByteArray.empty), (3 : Int), false)))
  (cn (!decide (d0.fst.snd.fst = at_))
   (some ((((0 : Int), (0 : Int), (0 : Int), ByteArray.empty), (4 : Int), false)))
   (cn (decide (d0.fst.snd.snd.fst < least))
    (some ((((0 : Int), (0 : Int), (0 : Int), ByteArray.empty), (5 : Int), false)))
    (cn (!decide (d0.snd.fst = (0 : Int)))
     (some ((((0 : Int), (0 : Int), (0 : Int), ByteArray.empty), d0.snd.fst, false)))
     (some (((d0.fst.fst, d0.fst.snd.fst, d0.fst.snd.snd.fst, d0.fst.snd.snd.snd), (0 : Int), true))))))) := (opq_eq _).trans (by kernel_rfl)
abbrev i_StateFrom.s : Sig := ⟨21, [], [.val], [.one (.row 9 .str)], [.one (.own 3 (.int .i64)), .one .bool], [], []⟩
noncomputable def i_StateFrom.f (k : Nat) (l : List ByteArray) : Option (List Int × Bool) := sfF l
theorem i_StateFrom.ok (k : Nat) : CtrOk Try.prog 21 (i_StateFrom.s.ctr fun x => i_StateFrom.f k x) := sf_ctr
abbrev i_RecoverFrom.s : Sig := ⟨31, [], [.val], [.agg [.row 9 .str, .row 9 .str, .row 4 .bool]], [.one (.own 3 (.int .i64)), .one (.int .i64), .one .bool], [], [(0, [(1,false),(7,false),(10,true),(42,false)])]⟩
noncomputable def i_RecoverFrom.C (k : Nat) : List (Nat × Ctr) := [(21, i_StateFrom.s.ctr (fun x => i_StateFrom.f k x)), (74, i_GoodDisk.s.ctr (fun x => i_GoodDisk.f k x.1 x.2.1 x.2.2)), (75, i_ReadSector.s.ctr (fun x => i_ReadSector.f k x.1.1 x.1.2.1 x.1.2.2 x.2)), (76, i_CheckFrame.s.ctr (fun x => i_CheckFrame.f k x.1 x.2.1 x.2.2.1 x.2.2.2)), (77, i_halfOf.s.ctr (fun x => i_halfOf.f k x))]
noncomputable def i_RecoverFrom.f (k : Nat) (d_Plate : List ByteArray) (d_Held : List ByteArray) (d_Bad : List Bool) : Option (List Int × Int × Bool) := opq (i_RecoverFrom.s.run Try.prog (i_RecoverFrom.C k) k (d_Plate, d_Held, d_Bad))
theorem i_RecoverFrom.ok (k : Nat) : CtrOk Try.prog 31 (i_RecoverFrom.s.ctr (fun x => i_RecoverFrom.f k x.1 x.2.1 x.2.2)) := sig_ok i_RecoverFrom.s (.cons (i_StateFrom.ok k) (.cons (i_GoodDisk.ok k) (.cons (i_ReadSector.ok k) (.cons (i_CheckFrame.ok k) (.cons (i_halfOf.ok k) .nil))))) (by kernel_rfl) fun _ => opq_eq _
noncomputable def i_RecoverFrom.l0 (k : Nat) (m : Nat) (t42 : Int) (h1 : List ByteArray) (h1_ : List ByteArray) (h1__ : List Bool) (h2 : Int) (h2_ : Int) (h2__ : Int) (h2___ : ByteArray) (h3 : List ByteArray) : Option (List Int × Int × Bool) := i_RecoverFrom.s.head Try.prog (i_RecoverFrom.C k) k 1 0 [] m [(1, AV.ptr 1 0 0), (7, AV.ptr 2 0 0), (10, AV.ref 3), (42, AV.int IntKind.i64 t42)] [Root.dead, Root.box 38 [AV.row 9 Kind.str h1, AV.row 9 Kind.str h1_, AV.row 4 Kind.bool h1__], Root.box 98 [AV.int IntKind.i64 h2, AV.int IntKind.i64 h2_, AV.int IntKind.i64 h2__, AV.str h2___], Root.rows 9 Kind.str h3]
theorem i_RecoverFrom.l0_z (k : Nat) (t42 : Int) (h1 : List ByteArray) (h1_ : List ByteArray) (h1__ : List Bool) (h2 : Int) (h2_ : Int) (h2__ : Int) (h2___ : ByteArray) (h3 : List ByteArray) : i_RecoverFrom.l0 k 0 t42 h1 h1_ h1__ h2 h2_ h2__ h2___ h3 = none := by kernel_rfl
theorem i_RecoverFrom.l0_s (k : Nat) (m : Nat) (t42 : Int) (h1 : List ByteArray) (h1_ : List ByteArray) (h1__ : List Bool) (h2 : Int) (h2_ : Int) (h2__ : Int) (h2___ : ByteArray) (h3 : List ByteArray) : i_RecoverFrom.l0 k (m + 1) t42 h1 h1_ h1__ h2 h2_ h2__ h2___ h3 =
 cn (decide (t42 < (2 : Int)))
 ((i_halfOf.f k h2__).bind fun d1 =>
  (i_ReadSector.f k h1 h1_ h1__ (IntKind.i64.wrap (d1 + t42))).bind fun d2 =>
  (i_CheckFrame.f k d2.fst (3 : Int) (IntKind.i64.wrap (d1 + t42)) h2__).bind fun d3 =>
  cn (!d3.snd.snd)
  (some (([], (0 : Int), false)))
  (cn (!decide (d3.fst.snd.snd.fst = h2__))
   (some (([], (0 : Int), false)))
   (gd (appOk (h3.length + [d3.fst.snd.snd.snd].length) (Try.prog.bytesOf (9 : Nat)))
    (i_RecoverFrom.l0 k m (IntKind.i64.wrap (t42 + (1 : Int))) h1 h1_ h1__ h2 h2_ h2__ h2___ (h3 ++ [d3.fst.snd.snd.snd])))))
 ((i_StateFrom.f k h3).bind fun d1 =>
  cn (!d1.snd)
  (some (([], (0 : Int), false)))
  (some ((d1.fst, h2__, true)))) := by kernel_rfl
theorem i_RecoverFrom.f_eq (k : Nat) (d_Plate : List ByteArray) (d_Held : List ByteArray) (d_Bad : List Bool) : i_RecoverFrom.f k d_Plate d_Held d_Bad =
 (i_GoodDisk.f k d_Plate d_Held d_Bad).bind fun d0 =>
 cn (!d0)
 (some (([], (0 : Int), false)))
 (cn (!decide ((↑d_Plate.length : Int) = (5 : Int)))
  (some (([], (0 : Int), false)))
  ((i_ReadSector.f k d_Plate d_Held d_Bad (0 : Int)).bind fun d1 =>
   (i_CheckFrame.f k d1.fst (4 : Int) (0 : Int) (0 : Int)).bind fun d2 =>
   cn (!d2.snd.snd)
   (some (([], (0 : Int), false)))
   (i_RecoverFrom.l0 k k ((0 : Int)) d_Plate d_Held d_Bad d2.fst.fst d2.fst.snd.fst d2.fst.snd.snd.fst d2.fst.snd.snd.snd ([])))) := (opq_eq _).trans (by kernel_rfl)
abbrev b_Index_bool.s : Sig := ⟨109, [], [.val, .val], [.one (.row 4 .bool), .one .bool], [.one (.int .i64)], [], [(0, [(0,false),(1,false),(7,false),(8,false)])]⟩
noncomputable def b_Index_bool.C (k : Nat) : List (Nat × Ctr) := []
noncomputable def b_Index_bool.f (k : Nat) (s : List Bool) (v : Bool) : Option Int := opq (b_Index_bool.s.run Try.prog (b_Index_bool.C k) k (s, v))
theorem b_Index_bool.ok (k : Nat) : CtrOk Try.prog 109 (b_Index_bool.s.ctr (fun x => b_Index_bool.f k x.1 x.2)) := sig_ok b_Index_bool.s .nil (by kernel_rfl) fun _ => opq_eq _
noncomputable def b_Index_bool.l0 (k : Nat) (m : Nat) (s0 : List Bool) (v1 : Bool) (t7 : Int) (t8 : Int) : Option Int := b_Index_bool.s.head Try.prog (b_Index_bool.C k) k 1 0 [] m [(0, AV.row 4 Kind.bool s0), (1, AV.bool v1), (7, AV.int IntKind.i64 t7), (8, AV.int IntKind.i64 t8)] [Root.dead]
theorem b_Index_bool.l0_z (k : Nat) (s0 : List Bool) (v1 : Bool) (t7 : Int) (t8 : Int) : b_Index_bool.l0 k 0 s0 v1 t7 t8 = none := by kernel_rfl
theorem b_Index_bool.l0_s (k : Nat) (m : Nat) (s0 : List Bool) (v1 : Bool) (t7 : Int) (t8 : Int) : b_Index_bool.l0 k (m + 1) s0 v1 t7 t8 =
 cn (decide (t8 < t7))
 (gd (inb t8 s0.length)
  (cn (v1 == getAt false s0 t8.toNat)
   (some t8)
   (b_Index_bool.l0 k m s0 v1 t7 (IntKind.i64.wrap (t8 + (1 : Int))))))
 (some ((-1 : Int))) := by kernel_rfl
theorem b_Index_bool.f_eq (k : Nat) (s : List Bool) (v : Bool) : b_Index_bool.f k s v =
 b_Index_bool.l0 k k s v ((↑s.length : Int)) ((0 : Int)) := (opq_eq _).trans (by kernel_rfl)
abbrev b_Contains_bool.s : Sig := ⟨82, [], [.val, .val], [.one (.row 4 .bool), .one .bool], [.one .bool], [], []⟩
noncomputable def b_Contains_bool.C (k : Nat) : List (Nat × Ctr) := [(109, b_Index_bool.s.ctr (fun x => b_Index_bool.f k x.1 x.2))]
noncomputable def b_Contains_bool.f (k : Nat) (s : List Bool) (v : Bool) : Option Bool := opq (b_Contains_bool.s.run Try.prog (b_Contains_bool.C k) k (s, v))
theorem b_Contains_bool.ok (k : Nat) : CtrOk Try.prog 82 (b_Contains_bool.s.ctr (fun x => b_Contains_bool.f k x.1 x.2)) := sig_ok b_Contains_bool.s (.cons (b_Index_bool.ok k) .nil) (by kernel_rfl) fun _ => opq_eq _
theorem b_Contains_bool.f_eq (k : Nat) (s : List Bool) (v : Bool) : b_Contains_bool.f k s v =
 (b_Index_bool.f k s v).bind fun d0 =>
 some (decide ((0 : Int) ≤ d0)) := (opq_eq _).trans (by kernel_rfl)
abbrev b_Equal_int.s : Sig := ⟨85, [], [.val, .val], [.one (.row 3 (.int .i64)), .one (.row 3 (.int .i64))], [.one .bool], [], [(0, [(0,false),(1,false),(12,false),(13,false)])]⟩
noncomputable def b_Equal_int.C (k : Nat) : List (Nat × Ctr) := []
noncomputable def b_Equal_int.f (k : Nat) (s1 : List Int) (s2 : List Int) : Option Bool := opq (b_Equal_int.s.run Try.prog (b_Equal_int.C k) k (s1, s2))
theorem b_Equal_int.ok (k : Nat) : CtrOk Try.prog 85 (b_Equal_int.s.ctr (fun x => b_Equal_int.f k x.1 x.2)) := sig_ok b_Equal_int.s .nil (by kernel_rfl) fun _ => opq_eq _
noncomputable def b_Equal_int.l0 (k : Nat) (m : Nat) (s10 : List Int) (s21 : List Int) (t12 : Int) (t13 : Int) : Option Bool := b_Equal_int.s.head Try.prog (b_Equal_int.C k) k 1 0 [] m [(0, AV.row 3 (Kind.int IntKind.i64) s10), (1, AV.row 3 (Kind.int IntKind.i64) s21), (12, AV.int IntKind.i64 t12), (13, AV.int IntKind.i64 t13)] [Root.dead]
theorem b_Equal_int.l0_z (k : Nat) (s10 : List Int) (s21 : List Int) (t12 : Int) (t13 : Int) : b_Equal_int.l0 k 0 s10 s21 t12 t13 = none := by kernel_rfl
theorem b_Equal_int.l0_s (k : Nat) (m : Nat) (s10 : List Int) (s21 : List Int) (t12 : Int) (t13 : Int) : b_Equal_int.l0 k (m + 1) s10 s21 t12 t13 =
 cn (decide (t13 < t12))
 (gd (inb t13 s10.length)
  (gd (inb t13 s21.length)
   (cn (!decide (getAt (0 : Int) s10 t13.toNat = getAt (0 : Int) s21 t13.toNat))
    (some false)
    (b_Equal_int.l0 k m s10 s21 t12 (IntKind.i64.wrap (t13 + (1 : Int)))))))
 (some true) := by kernel_rfl
theorem b_Equal_int.f_eq (k : Nat) (s1 : List Int) (s2 : List Int) : b_Equal_int.f k s1 s2 =
 cn (!decide ((↑s1.length : Int) = (↑s2.length : Int)))
 (some false)
 (b_Equal_int.l0 k k s1 s2 ((↑s1.length : Int)) ((0 : Int))) := (opq_eq _).trans (by kernel_rfl)
abbrev i_GoodJournal.s : Sig := ⟨37, [], [.val], [.agg [.row 9 .str, .row 9 .str, .row 4 .bool, .int .i64, .int .i64, .row 3 (.int .i64), .row 3 (.int .i64)]], [.one .bool], [], []⟩
noncomputable def i_GoodJournal.C (k : Nat) : List (Nat × Ctr) := [(31, i_RecoverFrom.s.ctr (fun x => i_RecoverFrom.f k x.1 x.2.1 x.2.2)), (56, i_isState.s.ctr (fun x => i_isState.f k x)), (74, i_GoodDisk.s.ctr (fun x => i_GoodDisk.f k x.1 x.2.1 x.2.2)), (82, b_Contains_bool.s.ctr (fun x => b_Contains_bool.f k x.1 x.2)), (83, i_within.s.ctr (fun x => i_within.f k x.1 x.2.1 x.2.2)), (84, i_crashed.s.ctr (fun x => i_crashed.f k x.1.1 x.1.2.1 x.1.2.2 x.2)), (85, b_Equal_int.s.ctr (fun x => b_Equal_int.f k x.1 x.2))]
noncomputable def i_GoodJournal.f (k : Nat) (j_Disk_Plate : List ByteArray) (j_Disk_Held : List ByteArray) (j_Disk_Bad : List Bool) (j_Epoch : Int) (j_Phase : Int) (j_Acked : List Int) (j_Coming : List Int) : Option Bool := opq (i_GoodJournal.s.run Try.prog (i_GoodJournal.C k) k (j_Disk_Plate, j_Disk_Held, j_Disk_Bad, j_Epoch, j_Phase, j_Acked, j_Coming))
theorem i_GoodJournal.ok (k : Nat) : CtrOk Try.prog 37 (i_GoodJournal.s.ctr (fun x => i_GoodJournal.f k x.1 x.2.1 x.2.2.1 x.2.2.2.1 x.2.2.2.2.1 x.2.2.2.2.2.1 x.2.2.2.2.2.2)) := sig_ok i_GoodJournal.s (.cons (i_RecoverFrom.ok k) (.cons (i_isState.ok k) (.cons (i_GoodDisk.ok k) (.cons (b_Contains_bool.ok k) (.cons (i_within.ok k) (.cons (i_crashed.ok k) (.cons (b_Equal_int.ok k) .nil))))))) (by kernel_rfl) fun _ => opq_eq _
theorem i_GoodJournal.f_eq (k : Nat) (j_Disk_Plate : List ByteArray) (j_Disk_Held : List ByteArray) (j_Disk_Bad : List Bool) (j_Epoch : Int) (j_Phase : Int) (j_Acked : List Int) (j_Coming : List Int) : i_GoodJournal.f k j_Disk_Plate j_Disk_Held j_Disk_Bad j_Epoch j_Phase j_Acked j_Coming =
 (i_GoodDisk.f k j_Disk_Plate j_Disk_Held j_Disk_Bad).bind fun d0 =>
 cn (!d0)
 (some false)
 (cn (!decide ((↑j_Disk_Plate.length : Int) = (5 : Int)))
  (some false)
  ((b_Contains_bool.f k j_Disk_Bad true).bind fun d1 =>
   cn d1
   (some false)
   ((i_within.f k j_Phase (0 : Int) (3 : Int)).bind fun d2 =>
    cn (!d2)
    (some false)
    ((i_isState.f k j_Acked).bind fun d3 =>
     cn (!d3)
     (some false)
     (cn (decide (j_Phase = (0 : Int)))
      (cn (decide ((0 : Int) < (↑j_Coming.length : Int)))
       (some false)
       (cn (decide ((0 : Int) < j_Phase))
        ((i_isState.f k j_Coming).bind fun d4 =>
         cn (!d4)
         (some false)
         ((i_crashed.f k j_Disk_Plate j_Disk_Held j_Disk_Bad []).bind fun d5 =>
          (i_RecoverFrom.f k d5.fst d5.snd.fst d5.snd.snd).bind fun d6 =>
          cn d6.snd.snd
          (cn (decide (d6.snd.fst = j_Epoch))
           ((b_Equal_int.f k d6.fst j_Acked).bind fun d7 =>
            some d7)
           (some false))
          (some false)))
        ((i_crashed.f k j_Disk_Plate j_Disk_Held j_Disk_Bad []).bind fun d4 =>
         (i_RecoverFrom.f k d4.fst d4.snd.fst d4.snd.snd).bind fun d5 =>
         cn d5.snd.snd
         (cn (decide (d5.snd.fst = j_Epoch))
          ((b_Equal_int.f k d5.fst j_Acked).bind fun d6 =>
           some d6)
          (some false))
         (some false))))
      (cn (decide ((0 : Int) < j_Phase))
       ((i_isState.f k j_Coming).bind fun d4 =>
        cn (!d4)
        (some false)
        ((i_crashed.f k j_Disk_Plate j_Disk_Held j_Disk_Bad []).bind fun d5 =>
         (i_RecoverFrom.f k d5.fst d5.snd.fst d5.snd.snd).bind fun d6 =>
         cn d6.snd.snd
         (cn (decide (d6.snd.fst = j_Epoch))
          ((b_Equal_int.f k d6.fst j_Acked).bind fun d7 =>
           some d7)
          (some false))
         (some false)))
       ((i_crashed.f k j_Disk_Plate j_Disk_Held j_Disk_Bad []).bind fun d4 =>
        (i_RecoverFrom.f k d4.fst d4.snd.fst d4.snd.snd).bind fun d5 =>
        cn d5.snd.snd
        (cn (decide (d5.snd.fst = j_Epoch))
         ((b_Equal_int.f k d5.fst j_Acked).bind fun d6 =>
          some d6)
         (some false))
        (some false)))))))) := (opq_eq _).trans (by kernel_rfl)
abbrev i_journalStep.s : Sig := ⟨87, [], [.val, .val], [.agg [.row 9 .str, .row 9 .str, .row 4 .bool, .int .i64, .int .i64, .row 3 (.int .i64), .row 3 (.int .i64)], .agg [.int .i64, .row 3 (.int .i64), .row 3 (.int .i64)]], [.agg [.own 9 .str, .own 9 .str, .own 4 .bool, .int .i64, .int .i64, .own 3 (.int .i64), .own 3 (.int .i64)], .one .bool], [], []⟩
noncomputable def i_journalStep.C (k : Nat) : List (Nat × Ctr) := [(116, i_ownJournal.s.ctr (fun x => i_ownJournal.f k x.1 x.2.1 x.2.2.1 x.2.2.2.1 x.2.2.2.2.1 x.2.2.2.2.2.1 x.2.2.2.2.2.2)), (117, b_Clone_int.s.ctr (fun x => b_Clone_int.f k x)), (31, i_RecoverFrom.s.ctr (fun x => i_RecoverFrom.f k x.1 x.2.1 x.2.2)), (37, i_GoodJournal.s.ctr (fun x => i_GoodJournal.f k x.1 x.2.1 x.2.2.1 x.2.2.2.1 x.2.2.2.2.1 x.2.2.2.2.2.1 x.2.2.2.2.2.2)), (56, i_isState.s.ctr (fun x => i_isState.f k x)), (67, i_sectorsOf.s.ctr (fun x => i_sectorsOf.f k x.1 x.2)), (68, i_rootOf.s.ctr (fun x => i_rootOf.f k x)), (84, i_crashed.s.ctr (fun x => i_crashed.f k x.1.1 x.1.2.1 x.1.2.2 x.2)), (91, i_heldIn.s.ctr (fun x => i_heldIn.f k x.1 x.2.1 x.2.2)), (92, i_areHeld.s.ctr (fun x => i_areHeld.f k x.1.1 x.1.2.1 x.1.2.2 x.2))]
noncomputable def i_journalStep.f (k : Nat) (j_Disk_Plate : List ByteArray) (j_Disk_Held : List ByteArray) (j_Disk_Bad : List Bool) (j_Epoch : Int) (j_Phase : Int) (j_Acked : List Int) (j_Coming : List Int) (x_Kind : Int) (x_Values : List Int) (x_Kept : List Int) : Option ((List ByteArray × List ByteArray × List Bool × Int × Int × List Int × List Int) × Bool) := opq (i_journalStep.s.run Try.prog (i_journalStep.C k) k ((j_Disk_Plate, j_Disk_Held, j_Disk_Bad, j_Epoch, j_Phase, j_Acked, j_Coming), (x_Kind, x_Values, x_Kept)))
theorem i_journalStep.ok (k : Nat) : CtrOk Try.prog 87 (i_journalStep.s.ctr (fun x => i_journalStep.f k x.1.1 x.1.2.1 x.1.2.2.1 x.1.2.2.2.1 x.1.2.2.2.2.1 x.1.2.2.2.2.2.1 x.1.2.2.2.2.2.2 x.2.1 x.2.2.1 x.2.2.2)) := sig_ok i_journalStep.s (.cons (i_ownJournal.ok k) (.cons (b_Clone_int.ok k) (.cons (i_RecoverFrom.ok k) (.cons (i_GoodJournal.ok k) (.cons (i_isState.ok k) (.cons (i_sectorsOf.ok k) (.cons (i_rootOf.ok k) (.cons (i_crashed.ok k) (.cons (i_heldIn.ok k) (.cons (i_areHeld.ok k) .nil)))))))))) (by kernel_rfl) fun _ => opq_eq _
theorem i_journalStep.f_eq (k : Nat) (j_Disk_Plate : List ByteArray) (j_Disk_Held : List ByteArray) (j_Disk_Bad : List Bool) (j_Epoch : Int) (j_Phase : Int) (j_Acked : List Int) (j_Coming : List Int) (x_Kind : Int) (x_Values : List Int) (x_Kept : List Int) : i_journalStep.f k j_Disk_Plate j_Disk_Held j_Disk_Bad j_Epoch j_Phase j_Acked j_Coming x_Kind x_Values x_Kept =

 let z3 : Option ((List ByteArray × List ByteArray × List Bool × Int × Int × List Int × List Int) × Bool) := (i_ownJournal.f k j_Disk_Plate j_Disk_Held j_Disk_Bad j_Epoch j_Phase j_Acked j_Coming).bind fun d0 => cn (decide (x_Kind = (1 : Int))) (cn (!decide (j_Phase = (0 : Int))) (some ((([], [], [], (0 : Int) , (0 : Int) , [], []) , false))) (cn (decide ((60000 : Int) ≤ j_Epoch)) (some ((([], [], [], (0 : Int) , (0 : Int) , [], []) , false))) ((i_isState.f k x_Values).bind fun d1 => cn (!d1) (some ((([], [], [], (0 : Int) , (0 : Int) , [], []) , false))) ((i_sectorsOf.f k (IntKind.i64.wrap (j_Epoch + (1 : Int))) x_Values).bind fun d2 => gd (decide ((0 : Int) ≤ d2.snd) && decide (d2.snd ≤ (↑d0.snd.fst.length : Int))) ((b_Clone_int.f k x_Values).bind fun d3 => (i_GoodJournal.f k d0.fst (copyL d0.snd.fst ((0 : Nat) + Int.toNat d2.snd) (d0.snd.fst.length - Int.toNat d2.snd) d2.fst) d0.snd.snd.fst d0.snd.snd.snd.fst (1 : Int) d0.snd.snd.snd.snd.snd.fst d3).bind fun d4 => some (((d0.fst, copyL d0.snd.fst ((0 : Nat) + Int.toNat d2.snd) (d0.snd.fst.length - Int.toNat d2.snd) d2.fst, d0.snd.snd.fst, d0.snd.snd.snd.fst, (1 : Int) , d0.snd.snd.snd.snd.snd.fst, d3) , d4))))))) (cn (decide (x_Kind = (2 : Int))) ((i_heldIn.f k j_Disk_Plate j_Disk_Held j_Disk_Bad).bind fun d1 => (i_crashed.f k j_Disk_Plate j_Disk_Held j_Disk_Bad d1).bind fun d2 => cn (decide (j_Phase = (1 : Int))) ((i_GoodJournal.f k d2.fst d2.snd.fst d2.snd.snd d0.snd.snd.snd.fst (2 : Int) d0.snd.snd.snd.snd.snd.fst d0.snd.snd.snd.snd.snd.snd).bind fun d3 => some (((d2.fst, d2.snd.fst, d2.snd.snd, d0.snd.snd.snd.fst, (2 : Int) , d0.snd.snd.snd.snd.snd.fst, d0.snd.snd.snd.snd.snd.snd) , d3))) (cn (decide (j_Phase = (3 : Int))) ((i_GoodJournal.f k d2.fst d2.snd.fst d2.snd.snd (IntKind.i64.wrap (d0.snd.snd.snd.fst + (1 : Int))) (0 : Int) d0.snd.snd.snd.snd.snd.snd []).bind fun d3 => some (((d2.fst, d2.snd.fst, d2.snd.snd, IntKind.i64.wrap (d0.snd.snd.snd.fst + (1 : Int)) , (0 : Int) , d0.snd.snd.snd.snd.snd.snd, []) , d3))) ((i_GoodJournal.f k d2.fst d2.snd.fst d2.snd.snd d0.snd.snd.snd.fst d0.snd.snd.snd.snd.fst d0.snd.snd.snd.snd.snd.fst d0.snd.snd.snd.snd.snd.snd).bind fun d3 => some (((d2.fst, d2.snd.fst, d2.snd.snd, d0.snd.snd.snd.fst, d0.snd.snd.snd.snd.fst, d0.snd.snd.snd.snd.snd.fst, d0.snd.snd.snd.snd.snd.snd) , d3))))) (cn (decide (x_Kind = (3 : Int))) (cn (!decide (j_Phase = (2 : Int))) (some ((([], [], [], (0 : Int) , (0 : Int) , [], []) , false))) (cn (decide ((60000 : Int) ≤ j_Epoch)) (some ((([], [], [], (0 : Int) , (0 : Int) , [], []) , false))) ((i_rootOf.f k (IntKind.i64.wrap (j_Epoch + (1 : Int)))).bind fun d1 => gd (inb (0 : Int) d0.snd.fst.length) ((i_GoodJournal.f k d0.fst (d0.snd.fst.set (0 : Nat) d1) d0.snd.snd.fst d0.snd.snd.snd.fst (3 : Int) d0.snd.snd.snd.snd.snd.fst d0.snd.snd.snd.snd.snd.snd).bind fun d2 => some (((d0.fst, d0.snd.fst.set (0 : Nat) d1, d0.snd.snd.fst, d0.snd.snd.snd.fst, (3 : Int) , d0.snd.snd.snd.snd.snd.fst, d0.snd.snd.snd.snd.snd.snd) , d2)))))) (cn (decide (x_Kind = (4 : Int))) ((i_areHeld.f k j_Disk_Plate j_Disk_Held j_Disk_Bad x_Kept).bind fun d1 => cn (!d1) (some ((([], [], [], (0 : Int) , (0 : Int) , [], []) , false))) ((i_crashed.f k j_Disk_Plate j_Disk_Held j_Disk_Bad x_Kept).bind fun d2 => (i_RecoverFrom.f k d2.fst d2.snd.fst d2.snd.snd).bind fun d3 => cn (!d3.snd.snd) (some ((([], [], [], (0 : Int) , (0 : Int) , [], []) , false))) ((i_GoodJournal.f k d2.fst d2.snd.fst d2.snd.snd d3.snd.fst (0 : Int) d3.fst []).bind fun d4 => some (((d2.fst, d2.snd.fst, d2.snd.snd, d3.snd.fst, (0 : Int) , d3.fst, []) , d4))))) (some ((([], [], [], (0 : Int) , (0 : Int) , [], []) , false))))));
 let z4 : Option ((List ByteArray × List ByteArray × List Bool × Int × Int × List Int × List Int) × Bool) := cn (decide ((0 : Int) < (↑x_Kept.length : Int))) (some ((([], [], [], (0 : Int) , (0 : Int) , [], []) , false))) z3;
 cn (!decide (x_Kind = (1 : Int))) (cn (decide ((0 : Int) < (↑x_Values.length : Int))) (some ((([], [], [], (0 : Int) , (0 : Int) , [], []) , false))) (cn (!decide (x_Kind = (4 : Int))) z4 z3)) (cn (!decide (x_Kind = (4 : Int))) z4 z3) := (opq_eq _).trans (by kernel_rfl)
abbrev i_PlayJournal.s : Sig := ⟨39, [], [.val], [.one (.row 111 (.pair (.int .i64) (.pair (.sl 3 (.int .i64)) (.sl 3 (.int .i64)))))], [.agg [.own 9 .str, .own 9 .str, .own 4 .bool, .int .i64, .int .i64, .own 3 (.int .i64), .own 3 (.int .i64)], .one (.own 4 .bool), .one .bool], [], [(0, [(2,false),(5,false),(6,true),(17,true),(18,false),(19,false)])]⟩
noncomputable def i_PlayJournal.C (k : Nat) : List (Nat × Ctr) := [(24, i_NewJournal.s.ctr (fun _ => i_NewJournal.f k)), (87, i_journalStep.s.ctr (fun x => i_journalStep.f k x.1.1 x.1.2.1 x.1.2.2.1 x.1.2.2.2.1 x.1.2.2.2.2.1 x.1.2.2.2.2.2.1 x.1.2.2.2.2.2.2 x.2.1 x.2.2.1 x.2.2.2))]
noncomputable def i_PlayJournal.f (k : Nat) (l : List (Int × List Int × List Int)) : Option ((List ByteArray × List ByteArray × List Bool × Int × Int × List Int × List Int) × List Bool × Bool) := opq (i_PlayJournal.s.run Try.prog (i_PlayJournal.C k) k l)
theorem i_PlayJournal.ok (k : Nat) : CtrOk Try.prog 39 (i_PlayJournal.s.ctr (fun x => i_PlayJournal.f k x)) := sig_ok i_PlayJournal.s (.cons (i_NewJournal.ok k) (.cons (i_journalStep.ok k) .nil)) (by kernel_rfl) fun _ => opq_eq _
noncomputable def i_PlayJournal.l0 (k : Nat) (m : Nat) (t17 : List (Int × List Int × List Int)) (t18 : Int) (t19 : Int) (h1 : Int) (h1_ : Int) (h2 : List ByteArray) (h3 : List ByteArray) (h4 : List Bool) (h5 : List Int) (h6 : List Int) (h7 : Int) (h7_ : Int) (h8 : List Bool) : Option ((List ByteArray × List ByteArray × List Bool × Int × Int × List Int × List Int) × List Bool × Bool) := i_PlayJournal.s.head Try.prog (i_PlayJournal.C k) k 1 0 [] m [(2, AV.ptr 1 0 0), (5, AV.ptr 7 0 0), (6, AV.ref 8), (17, AV.row 111 ((Kind.int IntKind.i64).pair ((Kind.sl 3 (Kind.int IntKind.i64)).pair (Kind.sl 3 (Kind.int IntKind.i64)))) t17), (18, AV.int IntKind.i64 t18), (19, AV.int IntKind.i64 t19)] [Root.dead, Root.box 40 [AV.nil 9 Kind.str, AV.nil 9 Kind.str, AV.nil 4 Kind.bool, AV.int IntKind.i64 h1, AV.int IntKind.i64 h1_, AV.nil 3 (Kind.int IntKind.i64), AV.nil 3 (Kind.int IntKind.i64)], Root.rows 9 Kind.str h2, Root.rows 9 Kind.str h3, Root.rows 4 Kind.bool h4, Root.rows 3 (Kind.int IntKind.i64) h5, Root.rows 3 (Kind.int IntKind.i64) h6, Root.box 40 [AV.ref 2, AV.ref 3, AV.ref 4, AV.int IntKind.i64 h7, AV.int IntKind.i64 h7_, AV.ref 5, AV.ref 6], Root.rows 4 Kind.bool h8]
theorem i_PlayJournal.l0_z (k : Nat) (t17 : List (Int × List Int × List Int)) (t18 : Int) (t19 : Int) (h1 : Int) (h1_ : Int) (h2 : List ByteArray) (h3 : List ByteArray) (h4 : List Bool) (h5 : List Int) (h6 : List Int) (h7 : Int) (h7_ : Int) (h8 : List Bool) : i_PlayJournal.l0 k 0 t17 t18 t19 h1 h1_ h2 h3 h4 h5 h6 h7 h7_ h8 = none := by kernel_rfl
theorem i_PlayJournal.l0_s (k : Nat) (m : Nat) (t17 : List (Int × List Int × List Int)) (t18 : Int) (t19 : Int) (h1 : Int) (h1_ : Int) (h2 : List ByteArray) (h3 : List ByteArray) (h4 : List Bool) (h5 : List Int) (h6 : List Int) (h7 : Int) (h7_ : Int) (h8 : List Bool) : i_PlayJournal.l0 k (m + 1) t17 t18 t19 h1 h1_ h2 h3 h4 h5 h6 h7 h7_ h8 =
 cn (decide (t19 < t18))
 (gd (inb t19 t17.length)
  ((i_journalStep.f k h2 h3 h4 h7 h7_ h5 h6 (getAt ((0 : Int), [], []) t17 t19.toNat).fst (getAt ((0 : Int), [], []) t17 t19.toNat).snd.fst (getAt ((0 : Int), [], []) t17 t19.toNat).snd.snd).bind fun d0 =>
   cn d0.snd
   (gd (appOk (h8.length + [d0.snd].length) (Try.prog.bytesOf (4 : Nat)))
    (i_PlayJournal.l0 k m t17 t18 (IntKind.i64.wrap (t19 + (1 : Int))) h1 h1_ d0.fst.fst d0.fst.snd.fst d0.fst.snd.snd.fst d0.fst.snd.snd.snd.snd.snd.fst d0.fst.snd.snd.snd.snd.snd.snd d0.fst.snd.snd.snd.fst d0.fst.snd.snd.snd.snd.fst (h8 ++ [d0.snd])))
   (gd (appOk (h8.length + [d0.snd].length) (Try.prog.bytesOf (4 : Nat)))
    (i_PlayJournal.l0 k m t17 t18 (IntKind.i64.wrap (t19 + (1 : Int))) h1 h1_ h2 h3 h4 h5 h6 h7 h7_ (h8 ++ [d0.snd])))))
 (some (((h2, h3, h4, h7, h7_, h5, h6), h8, true))) := by kernel_rfl
theorem i_PlayJournal.f_eq (k : Nat) (l : List (Int × List Int × List Int)) : i_PlayJournal.f k l =
 cn (decide ((60 : Int) < (↑l.length : Int)))
 (some ((([], [], [], (0 : Int), (0 : Int), [], []), [], false)))
 ((i_NewJournal.f k).bind fun d0 =>
  i_PlayJournal.l0 k k l ((↑l.length : Int)) ((0 : Int)) ((0 : Int)) ((0 : Int)) d0.fst d0.snd.fst d0.snd.snd.fst d0.snd.snd.snd.snd.snd.fst d0.snd.snd.snd.snd.snd.snd d0.snd.snd.snd.fst d0.snd.snd.snd.snd.fst ([])) := (opq_eq _).trans (by kernel_rfl)
abbrev w_eqStringS.s : Sig := ⟨13, [], [.val, .val], [.one (.row 9 .str), .one (.row 9 .str)], [.one .bool], [], [(0, [(0,false),(1,false),(5,false)])]⟩
noncomputable def w_eqStringS.C (k : Nat) : List (Nat × Ctr) := []
noncomputable def w_eqStringS.f (k : Nat) (a : List ByteArray) (b : List ByteArray) : Option Bool := opq (w_eqStringS.s.run Try.prog (w_eqStringS.C k) k (a, b))
theorem w_eqStringS.ok (k : Nat) : CtrOk Try.prog 13 (w_eqStringS.s.ctr (fun x => w_eqStringS.f k x.1 x.2)) := sig_ok w_eqStringS.s .nil (by kernel_rfl) fun _ => opq_eq _
noncomputable def w_eqStringS.l0 (k : Nat) (m : Nat) (a0 : List ByteArray) (b1 : List ByteArray) (i5 : Int) : Option Bool := w_eqStringS.s.head Try.prog (w_eqStringS.C k) k 1 0 [] m [(0, AV.row 9 Kind.str a0), (1, AV.row 9 Kind.str b1), (5, AV.int IntKind.i64 i5)] [Root.dead]
theorem w_eqStringS.l0_z (k : Nat) (a0 : List ByteArray) (b1 : List ByteArray) (i5 : Int) : w_eqStringS.l0 k 0 a0 b1 i5 = none := by kernel_rfl
theorem w_eqStringS.l0_s (k : Nat) (m : Nat) (a0 : List ByteArray) (b1 : List ByteArray) (i5 : Int) : w_eqStringS.l0 k (m + 1) a0 b1 i5 =
 cn (decide (i5 < (↑a0.length : Int)))
 (gd (inb i5 a0.length)
  (gd (inb i5 b1.length)
   (cn (!decide ((getAt ByteArray.empty a0 i5.toNat).toList = (getAt ByteArray.empty b1 i5.toNat).toList))
    (some false)
    (w_eqStringS.l0 k m a0 b1 (IntKind.i64.wrap (i5 + (1 : Int)))))))
 (some true) := by kernel_rfl
theorem w_eqStringS.f_eq (k : Nat) (a : List ByteArray) (b : List ByteArray) : w_eqStringS.f k a b =
 cn (!decide ((↑a.length : Int) = (↑b.length : Int)))
 (some false)
 (w_eqStringS.l0 k k a b ((0 : Int))) := (opq_eq _).trans (by kernel_rfl)
abbrev w_eqBoolS.s : Sig := ⟨49, [], [.val, .val], [.one (.row 4 .bool), .one (.row 4 .bool)], [.one .bool], [], [(0, [(0,false),(1,false),(5,false)])]⟩
noncomputable def w_eqBoolS.C (k : Nat) : List (Nat × Ctr) := []
noncomputable def w_eqBoolS.f (k : Nat) (a : List Bool) (b : List Bool) : Option Bool := opq (w_eqBoolS.s.run Try.prog (w_eqBoolS.C k) k (a, b))
theorem w_eqBoolS.ok (k : Nat) : CtrOk Try.prog 49 (w_eqBoolS.s.ctr (fun x => w_eqBoolS.f k x.1 x.2)) := sig_ok w_eqBoolS.s .nil (by kernel_rfl) fun _ => opq_eq _
noncomputable def w_eqBoolS.l0 (k : Nat) (m : Nat) (a0 : List Bool) (b1 : List Bool) (i5 : Int) : Option Bool := w_eqBoolS.s.head Try.prog (w_eqBoolS.C k) k 1 0 [] m [(0, AV.row 4 Kind.bool a0), (1, AV.row 4 Kind.bool b1), (5, AV.int IntKind.i64 i5)] [Root.dead]
theorem w_eqBoolS.l0_z (k : Nat) (a0 : List Bool) (b1 : List Bool) (i5 : Int) : w_eqBoolS.l0 k 0 a0 b1 i5 = none := by kernel_rfl
theorem w_eqBoolS.l0_s (k : Nat) (m : Nat) (a0 : List Bool) (b1 : List Bool) (i5 : Int) : w_eqBoolS.l0 k (m + 1) a0 b1 i5 =
 cn (decide (i5 < (↑a0.length : Int)))
 (gd (inb i5 a0.length)
  (gd (inb i5 b1.length)
   (cn (!getAt false a0 i5.toNat == getAt false b1 i5.toNat)
    (some false)
    (w_eqBoolS.l0 k m a0 b1 (IntKind.i64.wrap (i5 + (1 : Int)))))))
 (some true) := by kernel_rfl
theorem w_eqBoolS.f_eq (k : Nat) (a : List Bool) (b : List Bool) : w_eqBoolS.f k a b =
 cn (!decide ((↑a.length : Int) = (↑b.length : Int)))
 (some false)
 (w_eqBoolS.l0 k k a b ((0 : Int))) := (opq_eq _).trans (by kernel_rfl)
abbrev w_eqDisk.s : Sig := ⟨32, [], [.val, .val], [.agg [.row 9 .str, .row 9 .str, .row 4 .bool], .agg [.row 9 .str, .row 9 .str, .row 4 .bool]], [.one .bool], [], []⟩
noncomputable def w_eqDisk.C (k : Nat) : List (Nat × Ctr) := [(13, w_eqStringS.s.ctr (fun x => w_eqStringS.f k x.1 x.2)), (49, w_eqBoolS.s.ctr (fun x => w_eqBoolS.f k x.1 x.2))]
noncomputable def w_eqDisk.f (k : Nat) (a_Plate : List ByteArray) (a_Held : List ByteArray) (a_Bad : List Bool) (b_Plate : List ByteArray) (b_Held : List ByteArray) (b_Bad : List Bool) : Option Bool := opq (w_eqDisk.s.run Try.prog (w_eqDisk.C k) k ((a_Plate, a_Held, a_Bad), (b_Plate, b_Held, b_Bad)))
theorem w_eqDisk.ok (k : Nat) : CtrOk Try.prog 32 (w_eqDisk.s.ctr (fun x => w_eqDisk.f k x.1.1 x.1.2.1 x.1.2.2 x.2.1 x.2.2.1 x.2.2.2)) := sig_ok w_eqDisk.s (.cons (w_eqStringS.ok k) (.cons (w_eqBoolS.ok k) .nil)) (by kernel_rfl) fun _ => opq_eq _
theorem w_eqDisk.f_eq (k : Nat) (a_Plate : List ByteArray) (a_Held : List ByteArray) (a_Bad : List Bool) (b_Plate : List ByteArray) (b_Held : List ByteArray) (b_Bad : List Bool) : w_eqDisk.f k a_Plate a_Held a_Bad b_Plate b_Held b_Bad =
 (w_eqStringS.f k a_Plate b_Plate).bind fun d0 =>
 cn (!d0)
 (some false)
 ((w_eqStringS.f k a_Held b_Held).bind fun d1 =>
  cn (!d1)
  (some false)
  ((w_eqBoolS.f k a_Bad b_Bad).bind fun d2 =>
   cn (!d2)
   (some false)
   (some true))) := (opq_eq _).trans (by kernel_rfl)
abbrev w_eqIntS.s : Sig := ⟨14, [], [.val, .val], [.one (.row 3 (.int .i64)), .one (.row 3 (.int .i64))], [.one .bool], [], [(0, [(0,false),(1,false),(5,false)])]⟩
noncomputable def w_eqIntS.C (k : Nat) : List (Nat × Ctr) := []
noncomputable def w_eqIntS.f (k : Nat) (a : List Int) (b : List Int) : Option Bool := opq (w_eqIntS.s.run Try.prog (w_eqIntS.C k) k (a, b))
theorem w_eqIntS.ok (k : Nat) : CtrOk Try.prog 14 (w_eqIntS.s.ctr (fun x => w_eqIntS.f k x.1 x.2)) := sig_ok w_eqIntS.s .nil (by kernel_rfl) fun _ => opq_eq _
noncomputable def w_eqIntS.l0 (k : Nat) (m : Nat) (a0 : List Int) (b1 : List Int) (i5 : Int) : Option Bool := w_eqIntS.s.head Try.prog (w_eqIntS.C k) k 1 0 [] m [(0, AV.row 3 (Kind.int IntKind.i64) a0), (1, AV.row 3 (Kind.int IntKind.i64) b1), (5, AV.int IntKind.i64 i5)] [Root.dead]
theorem w_eqIntS.l0_z (k : Nat) (a0 : List Int) (b1 : List Int) (i5 : Int) : w_eqIntS.l0 k 0 a0 b1 i5 = none := by kernel_rfl
theorem w_eqIntS.l0_s (k : Nat) (m : Nat) (a0 : List Int) (b1 : List Int) (i5 : Int) : w_eqIntS.l0 k (m + 1) a0 b1 i5 =
 cn (decide (i5 < (↑a0.length : Int)))
 (gd (inb i5 a0.length)
  (gd (inb i5 b1.length)
   (cn (!decide (getAt (0 : Int) a0 i5.toNat = getAt (0 : Int) b1 i5.toNat))
    (some false)
    (w_eqIntS.l0 k m a0 b1 (IntKind.i64.wrap (i5 + (1 : Int)))))))
 (some true) := by kernel_rfl
theorem w_eqIntS.f_eq (k : Nat) (a : List Int) (b : List Int) : w_eqIntS.f k a b =
 cn (!decide ((↑a.length : Int) = (↑b.length : Int)))
 (some false)
 (w_eqIntS.l0 k k a b ((0 : Int))) := (opq_eq _).trans (by kernel_rfl)
abbrev w_eqJournal.s : Sig := ⟨25, [], [.val, .val], [.agg [.row 9 .str, .row 9 .str, .row 4 .bool, .int .i64, .int .i64, .row 3 (.int .i64), .row 3 (.int .i64)], .agg [.row 9 .str, .row 9 .str, .row 4 .bool, .int .i64, .int .i64, .row 3 (.int .i64), .row 3 (.int .i64)]], [.one .bool], [], []⟩
noncomputable def w_eqJournal.C (k : Nat) : List (Nat × Ctr) := [(14, w_eqIntS.s.ctr (fun x => w_eqIntS.f k x.1 x.2)), (32, w_eqDisk.s.ctr (fun x => w_eqDisk.f k x.1.1 x.1.2.1 x.1.2.2 x.2.1 x.2.2.1 x.2.2.2))]
noncomputable def w_eqJournal.f (k : Nat) (a_Disk_Plate : List ByteArray) (a_Disk_Held : List ByteArray) (a_Disk_Bad : List Bool) (a_Epoch : Int) (a_Phase : Int) (a_Acked : List Int) (a_Coming : List Int) (b_Disk_Plate : List ByteArray) (b_Disk_Held : List ByteArray) (b_Disk_Bad : List Bool) (b_Epoch : Int) (b_Phase : Int) (b_Acked : List Int) (b_Coming : List Int) : Option Bool := opq (w_eqJournal.s.run Try.prog (w_eqJournal.C k) k ((a_Disk_Plate, a_Disk_Held, a_Disk_Bad, a_Epoch, a_Phase, a_Acked, a_Coming), (b_Disk_Plate, b_Disk_Held, b_Disk_Bad, b_Epoch, b_Phase, b_Acked, b_Coming)))
theorem w_eqJournal.ok (k : Nat) : CtrOk Try.prog 25 (w_eqJournal.s.ctr (fun x => w_eqJournal.f k x.1.1 x.1.2.1 x.1.2.2.1 x.1.2.2.2.1 x.1.2.2.2.2.1 x.1.2.2.2.2.2.1 x.1.2.2.2.2.2.2 x.2.1 x.2.2.1 x.2.2.2.1 x.2.2.2.2.1 x.2.2.2.2.2.1 x.2.2.2.2.2.2.1 x.2.2.2.2.2.2.2)) := sig_ok w_eqJournal.s (.cons (w_eqIntS.ok k) (.cons (w_eqDisk.ok k) .nil)) (by kernel_rfl) fun _ => opq_eq _
theorem w_eqJournal.f_eq (k : Nat) (a_Disk_Plate : List ByteArray) (a_Disk_Held : List ByteArray) (a_Disk_Bad : List Bool) (a_Epoch : Int) (a_Phase : Int) (a_Acked : List Int) (a_Coming : List Int) (b_Disk_Plate : List ByteArray) (b_Disk_Held : List ByteArray) (b_Disk_Bad : List Bool) (b_Epoch : Int) (b_Phase : Int) (b_Acked : List Int) (b_Coming : List Int) : w_eqJournal.f k a_Disk_Plate a_Disk_Held a_Disk_Bad a_Epoch a_Phase a_Acked a_Coming b_Disk_Plate b_Disk_Held b_Disk_Bad b_Epoch b_Phase b_Acked b_Coming =
 (w_eqDisk.f k a_Disk_Plate a_Disk_Held a_Disk_Bad b_Disk_Plate b_Disk_Held b_Disk_Bad).bind fun d0 =>
 cn (!d0)
 (some false)
 (cn (!decide (a_Epoch = b_Epoch))
  (some false)
  (cn (!decide (a_Phase = b_Phase))
   (some false)
   ((w_eqIntS.f k a_Acked b_Acked).bind fun d1 =>
    cn (!d1)
    (some false)
    ((w_eqIntS.f k a_Coming b_Coming).bind fun d2 =>
     cn (!d2)
     (some false)
     (some true))))) := (opq_eq _).trans (by kernel_rfl)
abbrev w_eqJournalStep.s : Sig := ⟨95, [], [.val, .val], [.agg [.int .i64, .row 3 (.int .i64), .row 3 (.int .i64)], .agg [.int .i64, .row 3 (.int .i64), .row 3 (.int .i64)]], [.one .bool], [], []⟩
noncomputable def w_eqJournalStep.C (k : Nat) : List (Nat × Ctr) := [(14, w_eqIntS.s.ctr (fun x => w_eqIntS.f k x.1 x.2))]
noncomputable def w_eqJournalStep.f (k : Nat) (a_Kind : Int) (a_Values : List Int) (a_Kept : List Int) (b_Kind : Int) (b_Values : List Int) (b_Kept : List Int) : Option Bool := opq (w_eqJournalStep.s.run Try.prog (w_eqJournalStep.C k) k ((a_Kind, a_Values, a_Kept), (b_Kind, b_Values, b_Kept)))
theorem w_eqJournalStep.ok (k : Nat) : CtrOk Try.prog 95 (w_eqJournalStep.s.ctr (fun x => w_eqJournalStep.f k x.1.1 x.1.2.1 x.1.2.2 x.2.1 x.2.2.1 x.2.2.2)) := sig_ok w_eqJournalStep.s (.cons (w_eqIntS.ok k) .nil) (by kernel_rfl) fun _ => opq_eq _
theorem w_eqJournalStep.f_eq (k : Nat) (a_Kind : Int) (a_Values : List Int) (a_Kept : List Int) (b_Kind : Int) (b_Values : List Int) (b_Kept : List Int) : w_eqJournalStep.f k a_Kind a_Values a_Kept b_Kind b_Values b_Kept =
 cn (!decide (a_Kind = b_Kind))
 (some false)
 ((w_eqIntS.f k a_Values b_Values).bind fun d0 =>
  cn (!d0)
  (some false)
  ((w_eqIntS.f k a_Kept b_Kept).bind fun d1 =>
   cn (!d1)
   (some false)
   (some true))) := (opq_eq _).trans (by kernel_rfl)
abbrev w_eqJournalStepS.s : Sig := ⟨50, [], [.val, .val], [.one (.row 111 (.pair (.int .i64) (.pair (.sl 3 (.int .i64)) (.sl 3 (.int .i64))))), .one (.row 111 (.pair (.int .i64) (.pair (.sl 3 (.int .i64)) (.sl 3 (.int .i64)))))], [.one .bool], [], [(0, [(0,false),(1,false),(5,false)])]⟩
noncomputable def w_eqJournalStepS.C (k : Nat) : List (Nat × Ctr) := [(95, w_eqJournalStep.s.ctr (fun x => w_eqJournalStep.f k x.1.1 x.1.2.1 x.1.2.2 x.2.1 x.2.2.1 x.2.2.2))]
noncomputable def w_eqJournalStepS.f (k : Nat) (a : List (Int × List Int × List Int)) (b : List (Int × List Int × List Int)) : Option Bool := opq (w_eqJournalStepS.s.run Try.prog (w_eqJournalStepS.C k) k (a, b))
theorem w_eqJournalStepS.ok (k : Nat) : CtrOk Try.prog 50 (w_eqJournalStepS.s.ctr (fun x => w_eqJournalStepS.f k x.1 x.2)) := sig_ok w_eqJournalStepS.s (.cons (w_eqJournalStep.ok k) .nil) (by kernel_rfl) fun _ => opq_eq _
noncomputable def w_eqJournalStepS.l0 (k : Nat) (m : Nat) (a0 : List (Int × List Int × List Int)) (b1 : List (Int × List Int × List Int)) (i5 : Int) : Option Bool := w_eqJournalStepS.s.head Try.prog (w_eqJournalStepS.C k) k 1 0 [] m [(0, AV.row 111 ((Kind.int IntKind.i64).pair ((Kind.sl 3 (Kind.int IntKind.i64)).pair (Kind.sl 3 (Kind.int IntKind.i64)))) a0), (1, AV.row 111 ((Kind.int IntKind.i64).pair ((Kind.sl 3 (Kind.int IntKind.i64)).pair (Kind.sl 3 (Kind.int IntKind.i64)))) b1), (5, AV.int IntKind.i64 i5)] [Root.dead]
theorem w_eqJournalStepS.l0_z (k : Nat) (a0 : List (Int × List Int × List Int)) (b1 : List (Int × List Int × List Int)) (i5 : Int) : w_eqJournalStepS.l0 k 0 a0 b1 i5 = none := by kernel_rfl
theorem w_eqJournalStepS.l0_s (k : Nat) (m : Nat) (a0 : List (Int × List Int × List Int)) (b1 : List (Int × List Int × List Int)) (i5 : Int) : w_eqJournalStepS.l0 k (m + 1) a0 b1 i5 =
 cn (decide (i5 < (↑a0.length : Int)))
 (gd (inb i5 a0.length)
  (gd (inb i5 b1.length)
   ((w_eqJournalStep.f k (getAt ((0 : Int), [], []) a0 i5.toNat).fst (getAt ((0 : Int), [], []) a0 i5.toNat).snd.fst (getAt ((0 : Int), [], []) a0 i5.toNat).snd.snd (getAt ((0 : Int), [], []) b1 i5.toNat).fst (getAt ((0 : Int), [], []) b1 i5.toNat).snd.fst (getAt ((0 : Int), [], []) b1 i5.toNat).snd.snd).bind fun d0 =>
    cn (!d0)
    (some false)
    (w_eqJournalStepS.l0 k m a0 b1 (IntKind.i64.wrap (i5 + (1 : Int)))))))
 (some true) := by kernel_rfl
theorem w_eqJournalStepS.f_eq (k : Nat) (a : List (Int × List Int × List Int)) (b : List (Int × List Int × List Int)) : w_eqJournalStepS.f k a b =
 cn (!decide ((↑a.length : Int) = (↑b.length : Int)))
 (some false)
 (w_eqJournalStepS.l0 k k a b ((0 : Int))) := (opq_eq _).trans (by kernel_rfl)
abbrev w_markIntS.s : Sig := ⟨15, [], [.chg, .val], [.one (.row 3 (.int .i64)), .one (.int .i64)], [.one (.int .i64)], [.rows 3 (.int .i64)], [(0, [(0,false),(1,false),(5,false)])]⟩
noncomputable def w_markIntS.C (k : Nat) : List (Nat × Ctr) := []
noncomputable def w_markIntS.f (k : Nat) (a : List Int) (k_ : Int) : Option (Int × List Int) := opq (w_markIntS.s.run Try.prog (w_markIntS.C k) k (a, k_))
theorem w_markIntS.ok (k : Nat) : CtrOk Try.prog 15 (w_markIntS.s.ctr (fun x => w_markIntS.f k x.1 x.2)) := sig_ok w_markIntS.s .nil (by kernel_rfl) fun _ => opq_eq _
noncomputable def w_markIntS.l0 (k : Nat) (m : Nat) (k1 : Int) (i5 : Int) (h1 : List Int) : Option (Int × List Int) := w_markIntS.s.head Try.prog (w_markIntS.C k) k 2 0 [] m [(0, AV.ref 1), (1, AV.int IntKind.i64 k1), (5, AV.int IntKind.i64 i5)] [Root.dead, Root.rows 3 (Kind.int IntKind.i64) h1]
theorem w_markIntS.l0_z (k : Nat) (k1 : Int) (i5 : Int) (h1 : List Int) : w_markIntS.l0 k 0 k1 i5 h1 = none := by kernel_rfl
theorem w_markIntS.l0_s (k : Nat) (m : Nat) (k1 : Int) (i5 : Int) (h1 : List Int) : w_markIntS.l0 k (m + 1) k1 i5 h1 =
 cn (decide (i5 < (↑h1.length : Int)))
 (gd (inb i5 h1.length)
  (w_markIntS.l0 k m (IntKind.i64.wrap (k1 + (1 : Int))) (IntKind.i64.wrap (i5 + (1 : Int))) (h1.set i5.toNat k1)))
 (some ((k1, h1))) := by kernel_rfl
theorem w_markIntS.f_eq (k : Nat) (a : List Int) (k_ : Int) : w_markIntS.f k a k_ =
 w_markIntS.l0 k k k_ ((0 : Int)) a := (opq_eq _).trans (by kernel_rfl)
abbrev w_markJournalStepS.s : Sig := ⟨51, [], [.chg, .val], [.one (.row 111 (.pair (.int .i64) (.pair (.sl 3 (.int .i64)) (.sl 3 (.int .i64))))), .one (.int .i64)], [.one (.int .i64)], [.rows 111 (.pair (.int .i64) (.pair (.sl 3 (.int .i64)) (.sl 3 (.int .i64))))], [(0, [(0,false),(1,false),(5,false)])]⟩
noncomputable def w_markJournalStepS.C (k : Nat) : List (Nat × Ctr) := [(15, w_markIntS.s.ctr (fun x => w_markIntS.f k x.1 x.2))]
noncomputable def w_markJournalStepS.f (k : Nat) (a : List (Int × List Int × List Int)) (k_ : Int) : Option (Int × (List (Int × List Int × List Int))) := opq (w_markJournalStepS.s.run Try.prog (w_markJournalStepS.C k) k (a, k_))
theorem w_markJournalStepS.ok (k : Nat) : CtrOk Try.prog 51 (w_markJournalStepS.s.ctr (fun x => w_markJournalStepS.f k x.1 x.2)) := sig_ok w_markJournalStepS.s (.cons (w_markIntS.ok k) .nil) (by kernel_rfl) fun _ => opq_eq _
noncomputable def w_markJournalStepS.l0 (k : Nat) (m : Nat) (k1 : Int) (i5 : Int) (h1 : List (Int × List Int × List Int)) : Option (Int × (List (Int × List Int × List Int))) := w_markJournalStepS.s.head Try.prog (w_markJournalStepS.C k) k 2 0 [] m [(0, AV.ref 1), (1, AV.int IntKind.i64 k1), (5, AV.int IntKind.i64 i5)] [Root.dead, Root.rows 111 ((Kind.int IntKind.i64).pair ((Kind.sl 3 (Kind.int IntKind.i64)).pair (Kind.sl 3 (Kind.int IntKind.i64)))) h1]
theorem w_markJournalStepS.l0_z (k : Nat) (k1 : Int) (i5 : Int) (h1 : List (Int × List Int × List Int)) : w_markJournalStepS.l0 k 0 k1 i5 h1 = none := by kernel_rfl
theorem w_markJournalStepS.l0_s (k : Nat) (m : Nat) (k1 : Int) (i5 : Int) (h1 : List (Int × List Int × List Int)) : w_markJournalStepS.l0 k (m + 1) k1 i5 h1 =
 cn (decide (i5 < (↑h1.length : Int)))
 (gd (inb i5 h1.length)
  (gd (inb i5 (h1.set i5.toNat (k1, (getAt ((0 : Int), [], []) h1 i5.toNat).snd.fst, (getAt ((0 : Int), [], []) h1 i5.toNat).snd.snd)).length)
   ((w_markIntS.f k (getAt ((0 : Int), [], []) (h1.set i5.toNat (k1, (getAt ((0 : Int), [], []) h1 i5.toNat).snd.fst, (getAt ((0 : Int), [], []) h1 i5.toNat).snd.snd)) i5.toNat).snd.fst (IntKind.i64.wrap (k1 + (1 : Int)))).bind fun d0 =>
    gd (inb i5 ((h1.set i5.toNat (k1, (getAt ((0 : Int), [], []) h1 i5.toNat).snd.fst, (getAt ((0 : Int), [], []) h1 i5.toNat).snd.snd)).set i5.toNat ((getAt ((0 : Int), [], []) (h1.set i5.toNat (k1, (getAt ((0 : Int), [], []) h1 i5.toNat).snd.fst, (getAt ((0 : Int), [], []) h1 i5.toNat).snd.snd)) i5.toNat).fst, d0.snd, (getAt ((0 : Int), [], []) (h1.set i5.toNat (k1, (getAt ((0 : Int), [], []) h1 i5.toNat).snd.fst, (getAt ((0 : Int), [], []) h1 i5.toNat).snd.snd)) i5.toNat).snd.snd)).length)
    ((w_markIntS.f k (getAt ((0 : Int), [], []) ((h1.set i5.toNat (k1, (getAt ((0 : Int), [], []) h1 i5.toNat).snd.fst, (getAt ((0 : Int), [], []) h1 i5.toNat).snd.snd)).set i5.toNat ((getAt ((0 : Int), [], []) (h1.set i5.toNat (k1, (getAt ((0 : Int), [], []) h1 i5.toNat).snd.fst, (getAt ((0 : Int), [], []) h1 i5.toNat).snd.snd)) i5.toNat).fst, d0.snd, (getAt ((0 : Int), [], []) (h1.set i5.toNat (k1, (getAt ((0 : Int), [], []) h1 i5.toNat).snd.fst, (getAt ((0 : Int), [], []) h1 i5.toNat).snd.snd)) i5.toNat).snd.snd)) i5.toNat).snd.snd d0.fst).bind fun d1 =>
     w_markJournalStepS.l0 k m d1.fst (IntKind.i64.wrap (i5 + (1 : Int))) (((h1.set i5.toNat (k1, (getAt ((0 : Int), [], []) h1 i5.toNat).snd.fst, (getAt ((0 : Int), [], []) h1 i5.toNat).snd.snd)).set i5.toNat ((getAt ((0 : Int), [], []) (h1.set i5.toNat (k1, (getAt ((0 : Int), [], []) h1 i5.toNat).snd.fst, (getAt ((0 : Int), [], []) h1 i5.toNat).snd.snd)) i5.toNat).fst, d0.snd, (getAt ((0 : Int), [], []) (h1.set i5.toNat (k1, (getAt ((0 : Int), [], []) h1 i5.toNat).snd.fst, (getAt ((0 : Int), [], []) h1 i5.toNat).snd.snd)) i5.toNat).snd.snd)).set i5.toNat ((getAt ((0 : Int), [], []) ((h1.set i5.toNat (k1, (getAt ((0 : Int), [], []) h1 i5.toNat).snd.fst, (getAt ((0 : Int), [], []) h1 i5.toNat).snd.snd)).set i5.toNat ((getAt ((0 : Int), [], []) (h1.set i5.toNat (k1, (getAt ((0 : Int), [], []) h1 i5.toNat).snd.fst, (getAt ((0 : Int), [], []) h1 i5.toNat).snd.snd)) i5.toNat).fst, d0.snd, (getAt ((0 : Int), [], []) (h1.set i5.toNat (k1, (getAt ((0 : Int), [], []) h1 i5.toNat).snd.fst, (getAt ((0 : Int), [], []) h1 i5.toNat).snd.snd)) i5.toNat).snd.snd)) i5.toNat).fst, (getAt ((0 : Int), [], []) ((h1.set i5.toNat (k1, (getAt ((0 : Int), [], []) h1 i5.toNat).snd.fst, (getAt ((0 : Int), [], []) h1 i5.toNat).snd.snd)).set i5.toNat ((getAt ((0 : Int), [], []) (h1.set i5.toNat (k1, (getAt ((0 : Int), [], []) h1 i5.toNat).snd.fst, (getAt ((0 : Int), [], []) h1 i5.toNat).snd.snd)) i5.toNat).fst, d0.snd, (getAt ((0 : Int), [], []) (h1.set i5.toNat (k1, (getAt ((0 : Int), [], []) h1 i5.toNat).snd.fst, (getAt ((0 : Int), [], []) h1 i5.toNat).snd.snd)) i5.toNat).snd.snd)) i5.toNat).snd.fst, d1.snd))))))
 (some ((k1, h1))) := by kernel_rfl
theorem w_markJournalStepS.f_eq (k : Nat) (a : List (Int × List Int × List Int)) (k_ : Int) : w_markJournalStepS.f k a k_ =
 w_markJournalStepS.l0 k k k_ ((0 : Int)) a := (opq_eq _).trans (by kernel_rfl)
abbrev w_markText.s : Sig := ⟨58, [], [.val], [.one (.int .i64)], [.one .str], [], [(0, [(0,false),(3,false)])]⟩
noncomputable def w_markText.C (k : Nat) : List (Nat × Ctr) := []
noncomputable def w_markText.f (k : Nat) (k_ : Int) : Option ByteArray := opq (w_markText.s.run Try.prog (w_markText.C k) k k_)
theorem w_markText.ok (k : Nat) : CtrOk Try.prog 58 (w_markText.s.ctr (fun x => w_markText.f k x)) := sig_ok w_markText.s .nil (by kernel_rfl) fun _ => opq_eq _
noncomputable def w_markText.l0 (k : Nat) (m : Nat) (k0 : Int) (out3 : ByteArray) : Option ByteArray := w_markText.s.head Try.prog (w_markText.C k) k 1 0 [] m [(0, AV.int IntKind.i64 k0), (3, AV.str out3)] [Root.dead]
theorem w_markText.l0_z (k : Nat) (k0 : Int) (out3 : ByteArray) : w_markText.l0 k 0 k0 out3 = none := by kernel_rfl
theorem w_markText.l0_s (k : Nat) (m : Nat) (k0 : Int) (out3 : ByteArray) : w_markText.l0 k (m + 1) k0 out3 =
 cn (decide ((0 : Int) < k0))
 (gd (decide ((strOfNums [IntKind.u8.wrap (IntKind.i64.wrap ((48 : Int) + k0.tmod (10 : Int)))]).size + out3.size ≤ (140737488355328 : Nat)))
  (w_markText.l0 k m (IntKind.i64.wrap (k0.tdiv (10 : Int))) (strOfNums [IntKind.u8.wrap (IntKind.i64.wrap ((48 : Int) + k0.tmod (10 : Int)))] ++ out3)))
 (gd (decide ((1 : Nat) + out3.size ≤ (140737488355328 : Nat)))
  (some ({ data := #[(109 : UInt8)] : ByteArray } ++ out3))) := by kernel_rfl
theorem w_markText.f_eq (k : Nat) (k_ : Int) : w_markText.f k k_ =
 cn (decide (k_ ≤ (0 : Int)))
 (some ({ data := #[(109 : UInt8), (48 : UInt8)] : ByteArray }))
 (w_markText.l0 k k k_ ByteArray.empty) := (opq_eq _).trans (by kernel_rfl)
abbrev w_markStringS.s : Sig := ⟨16, [], [.chg, .val], [.one (.row 9 .str), .one (.int .i64)], [.one (.int .i64)], [.rows 9 .str], [(0, [(0,false),(1,false),(5,false)])]⟩
noncomputable def w_markStringS.C (k : Nat) : List (Nat × Ctr) := [(58, w_markText.s.ctr (fun x => w_markText.f k x))]
noncomputable def w_markStringS.f (k : Nat) (a : List ByteArray) (k_ : Int) : Option (Int × List ByteArray) := opq (w_markStringS.s.run Try.prog (w_markStringS.C k) k (a, k_))
theorem w_markStringS.ok (k : Nat) : CtrOk Try.prog 16 (w_markStringS.s.ctr (fun x => w_markStringS.f k x.1 x.2)) := sig_ok w_markStringS.s (.cons (w_markText.ok k) .nil) (by kernel_rfl) fun _ => opq_eq _
noncomputable def w_markStringS.l0 (k : Nat) (m : Nat) (k1 : Int) (i5 : Int) (h1 : List ByteArray) : Option (Int × List ByteArray) := w_markStringS.s.head Try.prog (w_markStringS.C k) k 2 0 [] m [(0, AV.ref 1), (1, AV.int IntKind.i64 k1), (5, AV.int IntKind.i64 i5)] [Root.dead, Root.rows 9 Kind.str h1]
theorem w_markStringS.l0_z (k : Nat) (k1 : Int) (i5 : Int) (h1 : List ByteArray) : w_markStringS.l0 k 0 k1 i5 h1 = none := by kernel_rfl
theorem w_markStringS.l0_s (k : Nat) (m : Nat) (k1 : Int) (i5 : Int) (h1 : List ByteArray) : w_markStringS.l0 k (m + 1) k1 i5 h1 =
 cn (decide (i5 < (↑h1.length : Int)))
 ((w_markText.f k k1).bind fun d0 =>
  gd (inb i5 h1.length)
  (w_markStringS.l0 k m (IntKind.i64.wrap (k1 + (1 : Int))) (IntKind.i64.wrap (i5 + (1 : Int))) (h1.set i5.toNat d0)))
 (some ((k1, h1))) := by kernel_rfl
theorem w_markStringS.f_eq (k : Nat) (a : List ByteArray) (k_ : Int) : w_markStringS.f k a k_ =
 w_markStringS.l0 k k k_ ((0 : Int)) a := (opq_eq _).trans (by kernel_rfl)
abbrev w_markBoolS.s : Sig := ⟨52, [], [.chg, .val], [.one (.row 4 .bool), .one (.int .i64)], [.one (.int .i64)], [.rows 4 .bool], [(0, [(0,false),(1,false),(5,false)])]⟩
noncomputable def w_markBoolS.C (k : Nat) : List (Nat × Ctr) := []
noncomputable def w_markBoolS.f (k : Nat) (a : List Bool) (k_ : Int) : Option (Int × List Bool) := opq (w_markBoolS.s.run Try.prog (w_markBoolS.C k) k (a, k_))
theorem w_markBoolS.ok (k : Nat) : CtrOk Try.prog 52 (w_markBoolS.s.ctr (fun x => w_markBoolS.f k x.1 x.2)) := sig_ok w_markBoolS.s .nil (by kernel_rfl) fun _ => opq_eq _
noncomputable def w_markBoolS.l0 (k : Nat) (m : Nat) (k1 : Int) (i5 : Int) (h1 : List Bool) : Option (Int × List Bool) := w_markBoolS.s.head Try.prog (w_markBoolS.C k) k 2 0 [] m [(0, AV.ref 1), (1, AV.int IntKind.i64 k1), (5, AV.int IntKind.i64 i5)] [Root.dead, Root.rows 4 Kind.bool h1]
theorem w_markBoolS.l0_z (k : Nat) (k1 : Int) (i5 : Int) (h1 : List Bool) : w_markBoolS.l0 k 0 k1 i5 h1 = none := by kernel_rfl
theorem w_markBoolS.l0_s (k : Nat) (m : Nat) (k1 : Int) (i5 : Int) (h1 : List Bool) : w_markBoolS.l0 k (m + 1) k1 i5 h1 =
 cn (decide (i5 < (↑h1.length : Int)))
 (gd (inb i5 h1.length)
  (w_markBoolS.l0 k m (IntKind.i64.wrap (k1 + (1 : Int))) (IntKind.i64.wrap (i5 + (1 : Int))) (h1.set i5.toNat (decide (k1.tmod (3 : Int) = (0 : Int))))))
 (some ((k1, h1))) := by kernel_rfl
theorem w_markBoolS.f_eq (k : Nat) (a : List Bool) (k_ : Int) : w_markBoolS.f k a k_ =
 w_markBoolS.l0 k k k_ ((0 : Int)) a := (opq_eq _).trans (by kernel_rfl)
abbrev w_markDisk.s : Sig := ⟨33, [.agg 3, .one], [.chg, .chg, .chg, .val], [.one (.row 9 .str), .one (.row 9 .str), .one (.row 4 .bool), .one (.int .i64)], [.one (.int .i64)], [.rows 9 .str, .rows 9 .str, .rows 4 .bool], []⟩
noncomputable def w_markDisk.C (k : Nat) : List (Nat × Ctr) := [(16, w_markStringS.s.ctr (fun x => w_markStringS.f k x.1 x.2)), (52, w_markBoolS.s.ctr (fun x => w_markBoolS.f k x.1 x.2))]
noncomputable def w_markDisk.f (k : Nat) (a_Plate : List ByteArray) (a_Held : List ByteArray) (a_Bad : List Bool) (k_ : Int) : Option (Int × List ByteArray × List ByteArray × List Bool) := opq (w_markDisk.s.run Try.prog (w_markDisk.C k) k (a_Plate, a_Held, a_Bad, k_))
theorem w_markDisk.ok (k : Nat) : CtrOk Try.prog 33 (w_markDisk.s.ctr (fun x => w_markDisk.f k x.1 x.2.1 x.2.2.1 x.2.2.2)) := sig_ok w_markDisk.s (.cons (w_markStringS.ok k) (.cons (w_markBoolS.ok k) .nil)) (by kernel_rfl) fun _ => opq_eq _
theorem w_markDisk.f_eq (k : Nat) (a_Plate : List ByteArray) (a_Held : List ByteArray) (a_Bad : List Bool) (k_ : Int) : w_markDisk.f k a_Plate a_Held a_Bad k_ =
 (w_markStringS.f k a_Plate k_).bind fun d0 =>
 (w_markStringS.f k a_Held d0.fst).bind fun d1 =>
 (w_markBoolS.f k a_Bad d1.fst).bind fun d2 =>
 some ((d2.fst, d0.snd, d1.snd, d2.snd)) := (opq_eq _).trans (by kernel_rfl)
abbrev w_markJournal.s : Sig := ⟨26, [.agg 7, .one], [.chg, .chg, .chg, .val, .val, .chg, .chg, .val], [.one (.row 9 .str), .one (.row 9 .str), .one (.row 4 .bool), .one (.int .i64), .one (.int .i64), .one (.row 3 (.int .i64)), .one (.row 3 (.int .i64)), .one (.int .i64)], [.one (.int .i64)], [.rows 9 .str, .rows 9 .str, .rows 4 .bool, .rows 3 (.int .i64), .rows 3 (.int .i64)], []⟩
noncomputable def w_markJournal.C (k : Nat) : List (Nat × Ctr) := [(15, w_markIntS.s.ctr (fun x => w_markIntS.f k x.1 x.2)), (33, w_markDisk.s.ctr (fun x => w_markDisk.f k x.1 x.2.1 x.2.2.1 x.2.2.2))]
noncomputable def w_markJournal.f (k : Nat) (a_Disk_Plate : List ByteArray) (a_Disk_Held : List ByteArray) (a_Disk_Bad : List Bool) (a_Epoch : Int) (a_Phase : Int) (a_Acked : List Int) (a_Coming : List Int) (k_ : Int) : Option (Int × List ByteArray × List ByteArray × List Bool × List Int × List Int) := opq (w_markJournal.s.run Try.prog (w_markJournal.C k) k (a_Disk_Plate, a_Disk_Held, a_Disk_Bad, a_Epoch, a_Phase, a_Acked, a_Coming, k_))
theorem w_markJournal.ok (k : Nat) : CtrOk Try.prog 26 (w_markJournal.s.ctr (fun x => w_markJournal.f k x.1 x.2.1 x.2.2.1 x.2.2.2.1 x.2.2.2.2.1 x.2.2.2.2.2.1 x.2.2.2.2.2.2.1 x.2.2.2.2.2.2.2)) := sig_ok w_markJournal.s (.cons (w_markIntS.ok k) (.cons (w_markDisk.ok k) .nil)) (by kernel_rfl) fun _ => opq_eq _
theorem w_markJournal.f_eq (k : Nat) (a_Disk_Plate : List ByteArray) (a_Disk_Held : List ByteArray) (a_Disk_Bad : List Bool) (a_Epoch : Int) (a_Phase : Int) (a_Acked : List Int) (a_Coming : List Int) (k_ : Int) : w_markJournal.f k a_Disk_Plate a_Disk_Held a_Disk_Bad a_Epoch a_Phase a_Acked a_Coming k_ =
 (w_markDisk.f k a_Disk_Plate a_Disk_Held a_Disk_Bad k_).bind fun d0 =>
 (w_markIntS.f k a_Acked d0.fst).bind fun d1 =>
 (w_markIntS.f k a_Coming d1.fst).bind fun d2 =>
 some ((d2.fst, d0.snd.fst, d0.snd.snd.fst, d0.snd.snd.snd, d1.snd, d2.snd)) := (opq_eq _).trans (by kernel_rfl)
abbrev w_heldStringS.s : Sig := ⟨17, [], [.val, .val], [.one (.row 9 .str), .one (.int .i64)], [.one (.int .i64)], [], [(0, [(0,false),(1,false),(5,false)])]⟩
noncomputable def w_heldStringS.C (k : Nat) : List (Nat × Ctr) := [(58, w_markText.s.ctr (fun x => w_markText.f k x))]
noncomputable def w_heldStringS.f (k : Nat) (a : List ByteArray) (k_ : Int) : Option Int := opq (w_heldStringS.s.run Try.prog (w_heldStringS.C k) k (a, k_))
theorem w_heldStringS.ok (k : Nat) : CtrOk Try.prog 17 (w_heldStringS.s.ctr (fun x => w_heldStringS.f k x.1 x.2)) := sig_ok w_heldStringS.s (.cons (w_markText.ok k) .nil) (by kernel_rfl) fun _ => opq_eq _
noncomputable def w_heldStringS.l0 (k : Nat) (m : Nat) (a0 : List ByteArray) (k1 : Int) (i5 : Int) : Option Int := w_heldStringS.s.head Try.prog (w_heldStringS.C k) k 1 0 [] m [(0, AV.row 9 Kind.str a0), (1, AV.int IntKind.i64 k1), (5, AV.int IntKind.i64 i5)] [Root.dead]
theorem w_heldStringS.l0_z (k : Nat) (a0 : List ByteArray) (k1 : Int) (i5 : Int) : w_heldStringS.l0 k 0 a0 k1 i5 = none := by kernel_rfl
theorem w_heldStringS.l0_s (k : Nat) (m : Nat) (a0 : List ByteArray) (k1 : Int) (i5 : Int) : w_heldStringS.l0 k (m + 1) a0 k1 i5 =
 cn (decide (i5 < (↑a0.length : Int)))
 (gd (inb i5 a0.length)
  ((w_markText.f k k1).bind fun d0 =>
   cn (!decide ((getAt ByteArray.empty a0 i5.toNat).toList = ByteArray.toList d0))
   (some ((-1 : Int)))
   (w_heldStringS.l0 k m a0 (IntKind.i64.wrap (k1 + (1 : Int))) (IntKind.i64.wrap (i5 + (1 : Int))))))
 (some k1) := by kernel_rfl
theorem w_heldStringS.f_eq (k : Nat) (a : List ByteArray) (k_ : Int) : w_heldStringS.f k a k_ =
 w_heldStringS.l0 k k a k_ ((0 : Int)) := (opq_eq _).trans (by kernel_rfl)
abbrev w_heldBoolS.s : Sig := ⟨53, [], [.val, .val], [.one (.row 4 .bool), .one (.int .i64)], [.one (.int .i64)], [], [(0, [(0,false),(1,false),(5,false)])]⟩
noncomputable def w_heldBoolS.C (k : Nat) : List (Nat × Ctr) := []
noncomputable def w_heldBoolS.f (k : Nat) (a : List Bool) (k_ : Int) : Option Int := opq (w_heldBoolS.s.run Try.prog (w_heldBoolS.C k) k (a, k_))
theorem w_heldBoolS.ok (k : Nat) : CtrOk Try.prog 53 (w_heldBoolS.s.ctr (fun x => w_heldBoolS.f k x.1 x.2)) := sig_ok w_heldBoolS.s .nil (by kernel_rfl) fun _ => opq_eq _
noncomputable def w_heldBoolS.l0 (k : Nat) (m : Nat) (a0 : List Bool) (k1 : Int) (i5 : Int) : Option Int := w_heldBoolS.s.head Try.prog (w_heldBoolS.C k) k 1 0 [] m [(0, AV.row 4 Kind.bool a0), (1, AV.int IntKind.i64 k1), (5, AV.int IntKind.i64 i5)] [Root.dead]
theorem w_heldBoolS.l0_z (k : Nat) (a0 : List Bool) (k1 : Int) (i5 : Int) : w_heldBoolS.l0 k 0 a0 k1 i5 = none := by kernel_rfl
theorem w_heldBoolS.l0_s (k : Nat) (m : Nat) (a0 : List Bool) (k1 : Int) (i5 : Int) : w_heldBoolS.l0 k (m + 1) a0 k1 i5 =
 cn (decide (i5 < (↑a0.length : Int)))
 (gd (inb i5 a0.length)
  (cn (!getAt false a0 i5.toNat == decide (k1.tmod (3 : Int) = (0 : Int)))
   (some ((-1 : Int)))
   (w_heldBoolS.l0 k m a0 (IntKind.i64.wrap (k1 + (1 : Int))) (IntKind.i64.wrap (i5 + (1 : Int))))))
 (some k1) := by kernel_rfl
theorem w_heldBoolS.f_eq (k : Nat) (a : List Bool) (k_ : Int) : w_heldBoolS.f k a k_ =
 w_heldBoolS.l0 k k a k_ ((0 : Int)) := (opq_eq _).trans (by kernel_rfl)
abbrev w_heldDisk.s : Sig := ⟨69, [], [.val, .val], [.agg [.row 9 .str, .row 9 .str, .row 4 .bool], .one (.int .i64)], [.one (.int .i64)], [], []⟩
noncomputable def w_heldDisk.C (k : Nat) : List (Nat × Ctr) := [(17, w_heldStringS.s.ctr (fun x => w_heldStringS.f k x.1 x.2)), (53, w_heldBoolS.s.ctr (fun x => w_heldBoolS.f k x.1 x.2))]
noncomputable def w_heldDisk.f (k : Nat) (a_Plate : List ByteArray) (a_Held : List ByteArray) (a_Bad : List Bool) (k_ : Int) : Option Int := opq (w_heldDisk.s.run Try.prog (w_heldDisk.C k) k ((a_Plate, a_Held, a_Bad), k_))
theorem w_heldDisk.ok (k : Nat) : CtrOk Try.prog 69 (w_heldDisk.s.ctr (fun x => w_heldDisk.f k x.1.1 x.1.2.1 x.1.2.2 x.2)) := sig_ok w_heldDisk.s (.cons (w_heldStringS.ok k) (.cons (w_heldBoolS.ok k) .nil)) (by kernel_rfl) fun _ => opq_eq _
theorem w_heldDisk.f_eq (k : Nat) (a_Plate : List ByteArray) (a_Held : List ByteArray) (a_Bad : List Bool) (k_ : Int) : w_heldDisk.f k a_Plate a_Held a_Bad k_ =
 (w_heldStringS.f k a_Plate k_).bind fun d0 =>
 cn (decide (d0 < (0 : Int)))
 (some ((-1 : Int)))
 ((w_heldStringS.f k a_Held d0).bind fun d1 =>
  cn (decide (d1 < (0 : Int)))
  (some ((-1 : Int)))
  ((w_heldBoolS.f k a_Bad d1).bind fun d2 =>
   cn (decide (d2 < (0 : Int)))
   (some ((-1 : Int)))
   (some d2))) := (opq_eq _).trans (by kernel_rfl)
abbrev w_heldIntS.s : Sig := ⟨22, [], [.val, .val], [.one (.row 3 (.int .i64)), .one (.int .i64)], [.one (.int .i64)], [], [(0, [(0,false),(1,false),(5,false)])]⟩
noncomputable def w_heldIntS.C (k : Nat) : List (Nat × Ctr) := []
noncomputable def w_heldIntS.f (k : Nat) (a : List Int) (k_ : Int) : Option Int := opq (w_heldIntS.s.run Try.prog (w_heldIntS.C k) k (a, k_))
theorem w_heldIntS.ok (k : Nat) : CtrOk Try.prog 22 (w_heldIntS.s.ctr (fun x => w_heldIntS.f k x.1 x.2)) := sig_ok w_heldIntS.s .nil (by kernel_rfl) fun _ => opq_eq _
noncomputable def w_heldIntS.l0 (k : Nat) (m : Nat) (a0 : List Int) (k1 : Int) (i5 : Int) : Option Int := w_heldIntS.s.head Try.prog (w_heldIntS.C k) k 1 0 [] m [(0, AV.row 3 (Kind.int IntKind.i64) a0), (1, AV.int IntKind.i64 k1), (5, AV.int IntKind.i64 i5)] [Root.dead]
theorem w_heldIntS.l0_z (k : Nat) (a0 : List Int) (k1 : Int) (i5 : Int) : w_heldIntS.l0 k 0 a0 k1 i5 = none := by kernel_rfl
theorem w_heldIntS.l0_s (k : Nat) (m : Nat) (a0 : List Int) (k1 : Int) (i5 : Int) : w_heldIntS.l0 k (m + 1) a0 k1 i5 =
 cn (decide (i5 < (↑a0.length : Int)))
 (gd (inb i5 a0.length)
  (cn (!decide (getAt (0 : Int) a0 i5.toNat = k1))
   (some ((-1 : Int)))
   (w_heldIntS.l0 k m a0 (IntKind.i64.wrap (k1 + (1 : Int))) (IntKind.i64.wrap (i5 + (1 : Int))))))
 (some k1) := by kernel_rfl
theorem w_heldIntS.f_eq (k : Nat) (a : List Int) (k_ : Int) : w_heldIntS.f k a k_ =
 w_heldIntS.l0 k k a k_ ((0 : Int)) := (opq_eq _).trans (by kernel_rfl)
abbrev w_heldJournal.s : Sig := ⟨27, [], [.val, .val], [.agg [.row 9 .str, .row 9 .str, .row 4 .bool, .int .i64, .int .i64, .row 3 (.int .i64), .row 3 (.int .i64)], .one (.int .i64)], [.one (.int .i64)], [], []⟩
noncomputable def w_heldJournal.C (k : Nat) : List (Nat × Ctr) := [(22, w_heldIntS.s.ctr (fun x => w_heldIntS.f k x.1 x.2)), (69, w_heldDisk.s.ctr (fun x => w_heldDisk.f k x.1.1 x.1.2.1 x.1.2.2 x.2))]
noncomputable def w_heldJournal.f (k : Nat) (a_Disk_Plate : List ByteArray) (a_Disk_Held : List ByteArray) (a_Disk_Bad : List Bool) (a_Epoch : Int) (a_Phase : Int) (a_Acked : List Int) (a_Coming : List Int) (k_ : Int) : Option Int := opq (w_heldJournal.s.run Try.prog (w_heldJournal.C k) k ((a_Disk_Plate, a_Disk_Held, a_Disk_Bad, a_Epoch, a_Phase, a_Acked, a_Coming), k_))
theorem w_heldJournal.ok (k : Nat) : CtrOk Try.prog 27 (w_heldJournal.s.ctr (fun x => w_heldJournal.f k x.1.1 x.1.2.1 x.1.2.2.1 x.1.2.2.2.1 x.1.2.2.2.2.1 x.1.2.2.2.2.2.1 x.1.2.2.2.2.2.2 x.2)) := sig_ok w_heldJournal.s (.cons (w_heldIntS.ok k) (.cons (w_heldDisk.ok k) .nil)) (by kernel_rfl) fun _ => opq_eq _
theorem w_heldJournal.f_eq (k : Nat) (a_Disk_Plate : List ByteArray) (a_Disk_Held : List ByteArray) (a_Disk_Bad : List Bool) (a_Epoch : Int) (a_Phase : Int) (a_Acked : List Int) (a_Coming : List Int) (k_ : Int) : w_heldJournal.f k a_Disk_Plate a_Disk_Held a_Disk_Bad a_Epoch a_Phase a_Acked a_Coming k_ =
 (w_heldDisk.f k a_Disk_Plate a_Disk_Held a_Disk_Bad k_).bind fun d0 =>
 cn (decide (d0 < (0 : Int)))
 (some ((-1 : Int)))
 ((w_heldIntS.f k a_Acked d0).bind fun d1 =>
  cn (decide (d1 < (0 : Int)))
  (some ((-1 : Int)))
  ((w_heldIntS.f k a_Coming d1).bind fun d2 =>
   cn (decide (d2 < (0 : Int)))
   (some ((-1 : Int)))
   (some d2))) := (opq_eq _).trans (by kernel_rfl)
abbrev w_FnExactPlayJournal.s : Sig := ⟨9, [], [.val], [.one (.row 117 (.pair (.int .i64) (.pair (.sl 3 (.int .i64)) (.sl 3 (.int .i64)))))], [.one .bool], [], []⟩
noncomputable def w_FnExactPlayJournal.C (k : Nat) : List (Nat × Ctr) := [(25, w_eqJournal.s.ctr (fun x => w_eqJournal.f k x.1.1 x.1.2.1 x.1.2.2.1 x.1.2.2.2.1 x.1.2.2.2.2.1 x.1.2.2.2.2.2.1 x.1.2.2.2.2.2.2 x.2.1 x.2.2.1 x.2.2.2.1 x.2.2.2.2.1 x.2.2.2.2.2.1 x.2.2.2.2.2.2.1 x.2.2.2.2.2.2.2)), (26, w_markJournal.s.ctr (fun x => w_markJournal.f k x.1 x.2.1 x.2.2.1 x.2.2.2.1 x.2.2.2.2.1 x.2.2.2.2.2.1 x.2.2.2.2.2.2.1 x.2.2.2.2.2.2.2)), (27, w_heldJournal.s.ctr (fun x => w_heldJournal.f k x.1.1 x.1.2.1 x.1.2.2.1 x.1.2.2.2.1 x.1.2.2.2.2.1 x.1.2.2.2.2.2.1 x.1.2.2.2.2.2.2 x.2)), (39, i_PlayJournal.s.ctr (fun x => i_PlayJournal.f k x)), (40, s_PlayJournal.s.ctr (fun x => s_PlayJournal.f k x)), (47, w_szJournalStepS.s.ctr (fun x => w_szJournalStepS.f k x.1 x.2)), (48, w_toJournalStepS.s.ctr (fun x => w_toJournalStepS.f k x)), (49, w_eqBoolS.s.ctr (fun x => w_eqBoolS.f k x.1 x.2)), (50, w_eqJournalStepS.s.ctr (fun x => w_eqJournalStepS.f k x.1 x.2)), (51, w_markJournalStepS.s.ctr (fun x => w_markJournalStepS.f k x.1 x.2)), (52, w_markBoolS.s.ctr (fun x => w_markBoolS.f k x.1 x.2)), (53, w_heldBoolS.s.ctr (fun x => w_heldBoolS.f k x.1 x.2))]
noncomputable def w_FnExactPlayJournal.f (k : Nat) (aL : List (Int × List Int × List Int)) : Option Bool := opq (w_FnExactPlayJournal.s.run Try.prog (w_FnExactPlayJournal.C k) k aL)
theorem w_FnExactPlayJournal.ok (k : Nat) : CtrOk Try.prog 9 (w_FnExactPlayJournal.s.ctr (fun x => w_FnExactPlayJournal.f k x)) := sig_ok w_FnExactPlayJournal.s (.cons (w_eqJournal.ok k) (.cons (w_markJournal.ok k) (.cons (w_heldJournal.ok k) (.cons (i_PlayJournal.ok k) (.cons (s_PlayJournal.ok k) (.cons (w_szJournalStepS.ok k) (.cons (w_toJournalStepS.ok k) (.cons (w_eqBoolS.ok k) (.cons (w_eqJournalStepS.ok k) (.cons (w_markJournalStepS.ok k) (.cons (w_markBoolS.ok k) (.cons (w_heldBoolS.ok k) .nil)))))))))))) (by kernel_rfl) fun _ => opq_eq _
theorem w_FnExactPlayJournal.f_eq (k : Nat) (aL : List (Int × List Int × List Int)) : w_FnExactPlayJournal.f k aL =
 (w_szJournalStepS.f k aL (1048576 : Int)).bind fun d0 =>
 cn (decide (d0 < (0 : Int)))
 (some true)
 ((w_toJournalStepS.f k aL).bind fun d1 =>
  (s_PlayJournal.f k d1).bind fun d2 =>
  (w_toJournalStepS.f k aL).bind fun d3 =>
  (i_PlayJournal.f k d3).bind fun d4 =>
  (w_eqJournal.f k d4.fst.fst d4.fst.snd.fst d4.fst.snd.snd.fst d4.fst.snd.snd.snd.fst d4.fst.snd.snd.snd.snd.fst d4.fst.snd.snd.snd.snd.snd.fst d4.fst.snd.snd.snd.snd.snd.snd d2.fst.fst d2.fst.snd.fst d2.fst.snd.snd.fst d2.fst.snd.snd.snd.fst d2.fst.snd.snd.snd.snd.fst d2.fst.snd.snd.snd.snd.snd.fst d2.fst.snd.snd.snd.snd.snd.snd).bind fun d5 =>
  cn (!d5)
  (some false)
  ((w_eqBoolS.f k d4.snd.fst d2.snd.fst).bind fun d6 =>
   cn (!d6)
   (some false)
   (cn (!d4.snd.snd == d2.snd.snd)
    (some false)
    ((w_toJournalStepS.f k aL).bind fun d7 =>
     (w_eqJournalStepS.f k d3 d7).bind fun d8 =>
     cn (!d8)
     (some false)
     ((w_markJournalStepS.f k d3 (1 : Int)).bind fun d9 =>
      cn (decide (d9.fst < (0 : Int)))
      (some false)
      ((w_eqJournal.f k d4.fst.fst d4.fst.snd.fst d4.fst.snd.snd.fst d4.fst.snd.snd.snd.fst d4.fst.snd.snd.snd.snd.fst d4.fst.snd.snd.snd.snd.snd.fst d4.fst.snd.snd.snd.snd.snd.snd d2.fst.fst d2.fst.snd.fst d2.fst.snd.snd.fst d2.fst.snd.snd.snd.fst d2.fst.snd.snd.snd.snd.fst d2.fst.snd.snd.snd.snd.snd.fst d2.fst.snd.snd.snd.snd.snd.snd).bind fun d10 =>
       cn (!d10)
       (some false)
       ((w_eqBoolS.f k d4.snd.fst d2.snd.fst).bind fun d11 =>
        cn (!d11)
        (some false)
        (cn (!d4.snd.snd == d2.snd.snd)
         (some false)
         ((w_markJournal.f k d4.fst.fst d4.fst.snd.fst d4.fst.snd.snd.fst d4.fst.snd.snd.snd.fst d4.fst.snd.snd.snd.snd.fst d4.fst.snd.snd.snd.snd.snd.fst d4.fst.snd.snd.snd.snd.snd.snd (1 : Int)).bind fun d12 =>
          (w_markBoolS.f k d4.snd.fst d12.fst).bind fun d13 =>
          (w_heldJournal.f k d12.snd.fst d12.snd.snd.fst d12.snd.snd.snd.fst d4.fst.snd.snd.snd.fst d4.fst.snd.snd.snd.snd.fst d12.snd.snd.snd.snd.fst d12.snd.snd.snd.snd.snd (1 : Int)).bind fun d14 =>
          cn (decide (d14 < (0 : Int)))
          (some false)
          ((w_heldBoolS.f k d13.snd d14).bind fun d15 =>
           cn (decide (d15 < (0 : Int)))
           (some false)
           (cn (!decide (d15 = d13.fst))
            (some false)
            ((w_toJournalStepS.f k aL).bind fun d16 =>
             (i_PlayJournal.f k d16).bind fun d17 =>
             (w_eqJournal.f k d17.fst.fst d17.fst.snd.fst d17.fst.snd.snd.fst d17.fst.snd.snd.snd.fst d17.fst.snd.snd.snd.snd.fst d17.fst.snd.snd.snd.snd.snd.fst d17.fst.snd.snd.snd.snd.snd.snd d2.fst.fst d2.fst.snd.fst d2.fst.snd.snd.fst d2.fst.snd.snd.snd.fst d2.fst.snd.snd.snd.snd.fst d2.fst.snd.snd.snd.snd.snd.fst d2.fst.snd.snd.snd.snd.snd.snd).bind fun d18 =>
             cn (!d18)
             (some false)
             ((w_eqBoolS.f k d17.snd.fst d2.snd.fst).bind fun d19 =>
              cn (!d19)
              (some false)
              (cn (!d17.snd.snd == d2.snd.snd)
               (some false)
               ((w_heldJournal.f k d12.snd.fst d12.snd.snd.fst d12.snd.snd.snd.fst d4.fst.snd.snd.snd.fst d4.fst.snd.snd.snd.snd.fst d12.snd.snd.snd.snd.fst d12.snd.snd.snd.snd.snd (1 : Int)).bind fun d20 =>
                cn (decide (d20 < (0 : Int)))
                (some false)
                ((w_heldBoolS.f k d13.snd d20).bind fun d21 =>
                 cn (decide (d21 < (0 : Int)))
                 (some false)
                 (cn (!decide (d21 = d13.fst))
                  (some false)
                  (some true)))))))))))))))))) := (opq_eq _).trans (by kernel_rfl)
end Go.Proofs.Ytcddcnnbhbffmaa
