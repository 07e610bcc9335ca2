/- The functions that the statement reaches, as the executor tells them; their contracts. No condition. -/
import Derived.Test.YtcddcnnbhbffmaaE36
import Derived.Test.YtcddcnnbhbffmaaProg
import Derived.Test.YtcddcnnbhbffmaaSFg
namespace Go.Proofs.Ytcddcnnbhbffmaa
open Go Go.Proofs.YtcddcnnbhbffmaaE
set_option linter.unusedVariables false
set_option maxRecDepth 100000
abbrev s_l1In.s : Sig := ⟨79, [], [.val, .val, .val], [.one (.int .i64), .one (.int .i64), .one (.int .i64)], [.one .bool], [], []⟩
noncomputable def s_l1In.C (k : Nat) : List (Nat × Ctr) := []
noncomputable def s_l1In.f (k : Nat) (n : Int) (lo : Int) (hi : Int) : Option Bool := opq (s_l1In.s.run Try.prog (s_l1In.C k) k (n, lo, hi))
theorem s_l1In.ok (k : Nat) : CtrOk Try.prog 79 (s_l1In.s.ctr (fun x => s_l1In.f k x.1 x.2.1 x.2.2)) := sig_ok s_l1In.s .nil (by kernel_rfl) fun _ => opq_eq _
theorem s_l1In.f_eq (k : Nat) (n : Int) (lo : Int) (hi : Int) : s_l1In.f k n lo hi =
 cn (decide (lo ≤ n))
 (some (decide (n ≤ hi)))
 (some false) := (opq_eq _).trans (by kernel_rfl)
abbrev s_NewDisk.s : Sig := ⟨61, [], [.val], [.one (.int .i64)], [.agg [.own 9 .str, .own 9 .str, .own 4 .bool], .one .bool], [], []⟩
noncomputable def s_NewDisk.C (k : Nat) : List (Nat × Ctr) := [(79, s_l1In.s.ctr (fun x => s_l1In.f k x.1 x.2.1 x.2.2))]
noncomputable def s_NewDisk.f (k : Nat) (sectors : Int) : Option ((List ByteArray × List ByteArray × List Bool) × Bool) := opq (s_NewDisk.s.run Try.prog (s_NewDisk.C k) k sectors)
theorem s_NewDisk.ok (k : Nat) : CtrOk Try.prog 61 (s_NewDisk.s.ctr (fun x => s_NewDisk.f k x)) := sig_ok s_NewDisk.s (.cons (s_l1In.ok k) .nil) (by kernel_rfl) fun _ => opq_eq _
theorem s_NewDisk.f_eq (k : Nat) (sectors : Int) : s_NewDisk.f k sectors =
 (s_l1In.f k sectors (1 : Int) (24 : Int)).bind fun d0 =>
 cn (!d0)
 (some ((([], [], []), false)))
 (both
  (gd (mkOk sectors sectors (Try.prog.bytesOf (9 : Nat)))
   (both
    (gd (mkOk sectors sectors (Try.prog.bytesOf (9 : Nat)))
     (gd (mkOk sectors sectors (Try.prog.bytesOf (4 : Nat)))
      (some (((List.replicate sectors.toNat ByteArray.empty, List.replicate sectors.toNat ByteArray.empty, List.replicate sectors.toNat false), true)))))
    (gd (mkOk sectors sectors (Try.prog.bytesOf (4 : Nat)))
     (gd (mkOk sectors sectors (Try.prog.bytesOf (9 : Nat)))
      (some (((List.replicate sectors.toNat ByteArray.empty, List.replicate sectors.toNat ByteArray.empty, List.replicate sectors.toNat false), true)))))))
  (both
   (gd (mkOk sectors sectors (Try.prog.bytesOf (9 : Nat)))
    (both
     (gd (mkOk sectors sectors (Try.prog.bytesOf (9 : Nat)))
      (gd (mkOk sectors sectors (Try.prog.bytesOf (4 : Nat)))
       (some (((List.replicate sectors.toNat ByteArray.empty, List.replicate sectors.toNat ByteArray.empty, List.replicate sectors.toNat false), true)))))
     (gd (mkOk sectors sectors (Try.prog.bytesOf (4 : Nat)))
      (gd (mkOk sectors sectors (Try.prog.bytesOf (9 : Nat)))
       (some (((List.replicate sectors.toNat ByteArray.empty, List.replicate sectors.toNat ByteArray.empty, List.replicate sectors.toNat false), true)))))))
   (gd (mkOk sectors sectors (Try.prog.bytesOf (4 : Nat)))
    (both
     (gd (mkOk sectors sectors (Try.prog.bytesOf (9 : Nat)))
      (gd (mkOk sectors sectors (Try.prog.bytesOf (9 : Nat)))
       (some (((List.replicate sectors.toNat ByteArray.empty, List.replicate sectors.toNat ByteArray.empty, List.replicate sectors.toNat false), true)))))
     (gd (mkOk sectors sectors (Try.prog.bytesOf (9 : Nat)))
      (gd (mkOk sectors sectors (Try.prog.bytesOf (9 : Nat)))
       (some (((List.replicate sectors.toNat ByteArray.empty, List.replicate sectors.toNat ByteArray.empty, List.replicate sectors.toNat false), true))))))))) := (opq_eq _).trans (by kernel_rfl)
abbrev s_l15Half.s : Sig := ⟨102, [], [.val], [.one (.int .i64)], [.one (.int .i64)], [], []⟩
noncomputable def s_l15Half.C (k : Nat) : List (Nat × Ctr) := []
noncomputable def s_l15Half.f (k : Nat) (epoch : Int) : Option Int := opq (s_l15Half.s.run Try.prog (s_l15Half.C k) k epoch)
theorem s_l15Half.ok (k : Nat) : CtrOk Try.prog 102 (s_l15Half.s.ctr (fun x => s_l15Half.f k x)) := sig_ok s_l15Half.s .nil (by kernel_rfl) fun _ => opq_eq _
theorem s_l15Half.f_eq (k : Nat) (epoch : Int) : s_l15Half.f k epoch =
 some (IntKind.i64.wrap ((1 : Int) + IntKind.i64.wrap ((2 : Int) * epoch.tmod (2 : Int)))) := (opq_eq _).trans (by kernel_rfl)
abbrev s_l6Bytes.s : Sig := ⟨96, [], [.val, .val], [.one (.int .i64), .one (.int .i64)], [.one .str], [], [(0, [(0,false),(5,true),(6,false)])]⟩
noncomputable def s_l6Bytes.C (k : Nat) : List (Nat × Ctr) := []
noncomputable def s_l6Bytes.f (k : Nat) (n : Int) (many : Int) : Option ByteArray := opq (s_l6Bytes.s.run Try.prog (s_l6Bytes.C k) k (n, many))
theorem s_l6Bytes.ok (k : Nat) : CtrOk Try.prog 96 (s_l6Bytes.s.ctr (fun x => s_l6Bytes.f k x.1 x.2)) := sig_ok s_l6Bytes.s .nil (by kernel_rfl) fun _ => opq_eq _
noncomputable def s_l6Bytes.l0 (k : Nat) (m : Nat) (n0 : Int) (i6 : Int) (h1 : List Int) : Option ByteArray := s_l6Bytes.s.head Try.prog (s_l6Bytes.C k) k 1 0 [] m [(0, AV.int IntKind.i64 n0), (5, AV.ref 1), (6, AV.int IntKind.i64 i6)] [Root.dead, Root.rows 5 (Kind.int IntKind.u8) h1]
theorem s_l6Bytes.l0_z (k : Nat) (n0 : Int) (i6 : Int) (h1 : List Int) : s_l6Bytes.l0 k 0 n0 i6 h1 = none := by kernel_rfl
theorem s_l6Bytes.l0_s (k : Nat) (m : Nat) (n0 : Int) (i6 : Int) (h1 : List Int) : s_l6Bytes.l0 k (m + 1) n0 i6 h1 =
 cn (decide ((0 : Int) ≤ i6))
 (gd (inb i6 h1.length)
  (s_l6Bytes.l0 k m (n0.fdiv ((2 : Int) ^ (8 : Nat))) (IntKind.i64.wrap (i6 - (1 : Int))) (h1.set i6.toNat (IntKind.u8.wrap n0))))
 (some (strOfNums h1)) := by kernel_rfl
theorem s_l6Bytes.f_eq (k : Nat) (n : Int) (many : Int) : s_l6Bytes.f k n many =
 gd (mkOk many many (Try.prog.bytesOf (5 : Nat)))
 (s_l6Bytes.l0 k k n (IntKind.i64.wrap (many - (1 : Int))) (List.replicate many.toNat (0 : Int))) := (opq_eq _).trans (by kernel_rfl)
abbrev s_l15Bytes.s : Sig := ⟨55, [], [.val], [.one (.row 3 (.int .i64))], [.one (.own 9 .str)], [], [(0, [(3,false),(6,true),(7,false),(8,false)])]⟩
noncomputable def s_l15Bytes.C (k : Nat) : List (Nat × Ctr) := [(96, s_l6Bytes.s.ctr (fun x => s_l6Bytes.f k x.1 x.2))]
noncomputable def s_l15Bytes.f (k : Nat) (values : List Int) : Option (List ByteArray) := opq (s_l15Bytes.s.run Try.prog (s_l15Bytes.C k) k values)
theorem s_l15Bytes.ok (k : Nat) : CtrOk Try.prog 55 (s_l15Bytes.s.ctr (fun x => s_l15Bytes.f k x)) := sig_ok s_l15Bytes.s (.cons (s_l6Bytes.ok k) .nil) (by kernel_rfl) fun _ => opq_eq _
noncomputable def s_l15Bytes.l0 (k : Nat) (m : Nat) (s3 : ByteArray) (t6 : List Int) (t7 : Int) (t8 : Int) : Option (List ByteArray) := s_l15Bytes.s.head Try.prog (s_l15Bytes.C k) k 1 0 [] m [(3, AV.str s3), (6, AV.row 3 (Kind.int IntKind.i64) t6), (7, AV.int IntKind.i64 t7), (8, AV.int IntKind.i64 t8)] [Root.dead]
theorem s_l15Bytes.l0_z (k : Nat) (s3 : ByteArray) (t6 : List Int) (t7 : Int) (t8 : Int) : s_l15Bytes.l0 k 0 s3 t6 t7 t8 = none := by kernel_rfl
theorem s_l15Bytes.l0_s (k : Nat) (m : Nat) (s3 : ByteArray) (t6 : List Int) (t7 : Int) (t8 : Int) : s_l15Bytes.l0 k (m + 1) s3 t6 t7 t8 =
 cn (decide (t8 < t7))
 (gd (inb t8 t6.length)
  ((s_l6Bytes.f k (getAt (0 : Int) t6 t8.toNat) (2 : Int)).bind fun d0 =>
   gd (decide (s3.size + ByteArray.size d0 ≤ (140737488355328 : Nat)))
   (s_l15Bytes.l0 k m (s3 ++ d0) t6 t7 (IntKind.i64.wrap (t8 + (1 : Int))))))
 (gd (true && decide ((6 : Int) ≤ (↑s3.size : Int)))
  (gd (true && decide ((6 : Int) ≤ (↑s3.size : Int)))
   (some ([s3.extract (0 : Nat) (6 : Nat), s3.extract (6 : Nat) s3.size])))) := by kernel_rfl
theorem s_l15Bytes.f_eq (k : Nat) (values : List Int) : s_l15Bytes.f k values =
 s_l15Bytes.l0 k k ByteArray.empty values ((↑values.length : Int)) ((0 : Int)) := (opq_eq _).trans (by kernel_rfl)
abbrev s_l5Byte.s : Sig := ⟨135, [], [.val], [.one (.int .i64)], [.one (.int .i64)], [], [(0, [(0,false),(3,false)])]⟩
noncomputable def s_l5Byte.C (k : Nat) : List (Nat × Ctr) := []
noncomputable def s_l5Byte.f (k : Nat) (sum : Int) : Option Int := opq (s_l5Byte.s.run Try.prog (s_l5Byte.C k) k sum)
theorem s_l5Byte.ok (k : Nat) : CtrOk Try.prog 135 (s_l5Byte.s.ctr (fun x => s_l5Byte.f k x)) := sig_ok s_l5Byte.s .nil (by kernel_rfl) fun _ => opq_eq _
noncomputable def s_l5Byte.l0 (k : Nat) (m : Nat) (sum0 : Int) (k3 : Int) : Option Int := s_l5Byte.s.head Try.prog (s_l5Byte.C k) k 1 0 [] m [(0, AV.int IntKind.i64 sum0), (3, AV.int IntKind.i64 k3)] [Root.dead]
theorem s_l5Byte.l0_z (k : Nat) (sum0 : Int) (k3 : Int) : s_l5Byte.l0 k 0 sum0 k3 = none := by kernel_rfl
theorem s_l5Byte.l0_s (k : Nat) (m : Nat) (sum0 : Int) (k3 : Int) : s_l5Byte.l0 k (m + 1) sum0 k3 =
 cn (decide (k3 < (8 : Int)))
 (cn (decide (IntKind.i64.wrap (↑(BitVec.ofInt (64 : Nat) sum0 &&& BitVec.ofInt (64 : Nat) (1 : Int)).toNat : Int) = (1 : Int)))
  (s_l5Byte.l0 k m (IntKind.i64.wrap (↑(BitVec.ofInt (64 : Nat) (sum0.fdiv ((2 : Int) ^ (1 : Nat))) ^^^ BitVec.ofInt (64 : Nat) (2197175160 : Int)).toNat : Int)) (IntKind.i64.wrap (k3 + (1 : Int))))
  (s_l5Byte.l0 k m (sum0.fdiv ((2 : Int) ^ (1 : Nat))) (IntKind.i64.wrap (k3 + (1 : Int)))))
 (some sum0) := by kernel_rfl
theorem s_l5Byte.f_eq (k : Nat) (sum : Int) : s_l5Byte.f k sum =
 s_l5Byte.l0 k k sum ((0 : Int)) := (opq_eq _).trans (by kernel_rfl)
abbrev s_l5On.s : Sig := ⟨127, [], [.val, .val], [.one (.int .i64), .one .str], [.one (.int .i64)], [], [(0, [(0,false),(1,false),(5,false)])]⟩
noncomputable def s_l5On.C (k : Nat) : List (Nat × Ctr) := [(135, s_l5Byte.s.ctr (fun x => s_l5Byte.f k x))]
noncomputable def s_l5On.f (k : Nat) (sum : Int) (s : ByteArray) : Option Int := opq (s_l5On.s.run Try.prog (s_l5On.C k) k (sum, s))
theorem s_l5On.ok (k : Nat) : CtrOk Try.prog 127 (s_l5On.s.ctr (fun x => s_l5On.f k x.1 x.2)) := sig_ok s_l5On.s (.cons (s_l5Byte.ok k) .nil) (by kernel_rfl) fun _ => opq_eq _
noncomputable def s_l5On.l0 (k : Nat) (m : Nat) (sum0 : Int) (s1 : ByteArray) (i5 : Int) : Option Int := s_l5On.s.head Try.prog (s_l5On.C k) k 1 0 [] m [(0, AV.int IntKind.i64 sum0), (1, AV.str s1), (5, AV.int IntKind.i64 i5)] [Root.dead]
theorem s_l5On.l0_z (k : Nat) (sum0 : Int) (s1 : ByteArray) (i5 : Int) : s_l5On.l0 k 0 sum0 s1 i5 = none := by kernel_rfl
theorem s_l5On.l0_s (k : Nat) (m : Nat) (sum0 : Int) (s1 : ByteArray) (i5 : Int) : s_l5On.l0 k (m + 1) sum0 s1 i5 =
 cn (decide (i5 < (↑s1.size : Int)))
 (gd (inb i5 s1.size)
  ((s_l5Byte.f k (IntKind.i64.wrap (↑(BitVec.ofInt (64 : Nat) sum0 ^^^ BitVec.ofInt (64 : Nat) (IntKind.i64.wrap (↑(s1.data.getD i5.toNat (0 : UInt8)).toNat : Int))).toNat : Int))).bind fun d0 =>
   s_l5On.l0 k m d0 s1 (IntKind.i64.wrap (i5 + (1 : Int)))))
 (some (IntKind.i64.wrap (↑(BitVec.ofInt (64 : Nat) sum0 ^^^ BitVec.ofInt (64 : Nat) (4294967295 : Int)).toNat : Int))) := by kernel_rfl
theorem s_l5On.f_eq (k : Nat) (sum : Int) (s : ByteArray) : s_l5On.f k sum s =
 s_l5On.l0 k k (IntKind.i64.wrap (↑(BitVec.ofInt (64 : Nat) sum ^^^ BitVec.ofInt (64 : Nat) (4294967295 : Int)).toNat : Int)) s ((0 : Int)) := (opq_eq _).trans (by kernel_rfl)
abbrev s_l6Low.s : Sig := ⟨126, [], [.val], [.one (.int .i64)], [.one .str], [], [(0, [(0,false),(3,false),(4,false)])]⟩
noncomputable def s_l6Low.C (k : Nat) : List (Nat × Ctr) := [(96, s_l6Bytes.s.ctr (fun x => s_l6Bytes.f k x.1 x.2))]
noncomputable def s_l6Low.f (k : Nat) (n : Int) : Option ByteArray := opq (s_l6Low.s.run Try.prog (s_l6Low.C k) k n)
theorem s_l6Low.ok (k : Nat) : CtrOk Try.prog 126 (s_l6Low.s.ctr (fun x => s_l6Low.f k x)) := sig_ok s_l6Low.s (.cons (s_l6Bytes.ok k) .nil) (by kernel_rfl) fun _ => opq_eq _
noncomputable def s_l6Low.l0 (k : Nat) (m : Nat) (n0 : Int) (s3 : ByteArray) (k4 : Int) : Option ByteArray := s_l6Low.s.head Try.prog (s_l6Low.C k) k 1 0 [] m [(0, AV.int IntKind.i64 n0), (3, AV.str s3), (4, AV.int IntKind.i64 k4)] [Root.dead]
theorem s_l6Low.l0_z (k : Nat) (n0 : Int) (s3 : ByteArray) (k4 : Int) : s_l6Low.l0 k 0 n0 s3 k4 = none := by kernel_rfl
theorem s_l6Low.l0_s (k : Nat) (m : Nat) (n0 : Int) (s3 : ByteArray) (k4 : Int) : s_l6Low.l0 k (m + 1) n0 s3 k4 =
 cn (decide (k4 < (4 : Int)))
 (gd (decide ((0 : Int) ≤ IntKind.u64.wrap (IntKind.i64.wrap ((8 : Int) * k4))))
  ((s_l6Bytes.f k (n0.fdiv ((2 : Int) ^ min (IntKind.u64.wrap (IntKind.i64.wrap ((8 : Int) * k4))).toNat (64 : Nat))) (1 : Int)).bind fun d0 =>
   gd (decide (s3.size + ByteArray.size d0 ≤ (140737488355328 : Nat)))
   (s_l6Low.l0 k m n0 (s3 ++ d0) (IntKind.i64.wrap (k4 + (1 : Int))))))
 (some s3) := by kernel_rfl
theorem s_l6Low.f_eq (k : Nat) (n : Int) : s_l6Low.f k n =
 s_l6Low.l0 k k n ByteArray.empty ((0 : Int)) := (opq_eq _).trans (by kernel_rfl)
abbrev s_l6Frame.s : Sig := ⟨101, [], [.val], [.agg [.int .i64, .int .i64, .int .i64, .str]], [.one .str], [], []⟩
noncomputable def s_l6Frame.C (k : Nat) : List (Nat × Ctr) := [(96, s_l6Bytes.s.ctr (fun x => s_l6Bytes.f k x.1 x.2)), (126, s_l6Low.s.ctr (fun x => s_l6Low.f k x)), (127, s_l5On.s.ctr (fun x => s_l5On.f k x.1 x.2))]
noncomputable def s_l6Frame.f (k : Nat) (f_Kind : Int) (f_At : Int) (f_Epoch : Int) (f_Body : ByteArray) : Option ByteArray := opq (s_l6Frame.s.run Try.prog (s_l6Frame.C k) k (f_Kind, f_At, f_Epoch, f_Body))
theorem s_l6Frame.ok (k : Nat) : CtrOk Try.prog 101 (s_l6Frame.s.ctr (fun x => s_l6Frame.f k x.1 x.2.1 x.2.2.1 x.2.2.2)) := sig_ok s_l6Frame.s (.cons (s_l6Bytes.ok k) (.cons (s_l6Low.ok k) (.cons (s_l5On.ok k) .nil))) (by kernel_rfl) fun _ => opq_eq _
theorem s_l6Frame.f_eq (k : Nat) (f_Kind : Int) (f_At : Int) (f_Epoch : Int) (f_Body : ByteArray) : s_l6Frame.f k f_Kind f_At f_Epoch f_Body =
 both
 ((s_l6Bytes.f k f_Kind (1 : Int)).bind fun d0 =>
  both
  ((s_l6Bytes.f k f_At (2 : Int)).bind fun d1 =>
   gd (decide (ByteArray.size d0 + ByteArray.size d1 ≤ (140737488355328 : Nat)))
   (both
    ((s_l6Bytes.f k f_Epoch (2 : Int)).bind fun d2 =>
     gd (decide ((d0 ++ d1).size + ByteArray.size d2 ≤ (140737488355328 : Nat)))
     (both
      ((s_l6Bytes.f k (↑f_Body.size : Int) (1 : Int)).bind fun d3 =>
       gd (decide ((d0 ++ d1 ++ d2).size + ByteArray.size d3 ≤ (140737488355328 : Nat)))
       (gd (decide ((d0 ++ d1 ++ d2 ++ d3).size + f_Body.size ≤ (140737488355328 : Nat)))
        (gd (mkOk (IntKind.i64.wrap (IntKind.i64.wrap ((16 : Int) - (↑f_Body.size : Int)) + (2 : Int))) (IntKind.i64.wrap (IntKind.i64.wrap ((16 : Int) - (↑f_Body.size : Int)) + (2 : Int))) (Try.prog.bytesOf (5 : Nat)))
         (gd (decide ((d0 ++ d1 ++ d2 ++ d3 ++ f_Body).size + (strOfNums (List.replicate (IntKind.i64.wrap (IntKind.i64.wrap ((16 : Int) - (↑f_Body.size : Int)) + (2 : Int))).toNat (0 : Int))).size ≤ (140737488355328 : Nat)))
          ((s_l5On.f k (0 : Int) (d0 ++ d1 ++ d2 ++ d3 ++ f_Body ++ strOfNums (List.replicate (IntKind.i64.wrap (IntKind.i64.wrap ((16 : Int) - (↑f_Body.size : Int)) + (2 : Int))).toNat (0 : Int)))).bind fun d4 =>
           (s_l6Low.f k d4).bind fun d5 =>
           gd (decide ((d0 ++ d1 ++ d2 ++ d3 ++ f_Body ++ strOfNums (List.replicate (IntKind.i64.wrap (IntKind.i64.wrap ((16 : Int) - (↑f_Body.size : Int)) + (2 : Int))).toNat (0 : Int))).size + ByteArray.size d5 ≤ (140737488355328 : Nat)))
           (some (d0 ++ d1 ++ d2 ++ d3 ++ f_Body ++ strOfNums (List.replicate (IntKind.i64.wrap (IntKind.i64.wrap ((16 : Int) - (↑f_Body.size : Int)) + (2 : Int))).toNat (0 : Int)) ++ d5)))))))
      (gd (mkOk (IntKind.i64.wrap (IntKind.i64.wrap ((16 : Int) - (↑f_Body.size : Int)) + (2 : Int))) (IntKind.i64.wrap (IntKind.i64.wrap ((16 : Int) - (↑f_Body.size : Int)) + (2 : Int))) (Try.prog.bytesOf (5 : Nat)))
       (both
        ((s_l6Bytes.f k (↑f_Body.size : Int) (1 : Int)).bind fun d6 =>
         gd (decide ((d0 ++ d1 ++ d2).size + ByteArray.size d6 ≤ (140737488355328 : Nat)))
         (gd (decide ((d0 ++ d1 ++ d2 ++ d6).size + f_Body.size ≤ (140737488355328 : Nat)))
          (gd (decide ((d0 ++ d1 ++ d2 ++ d6 ++ f_Body).size + (strOfNums (List.replicate (IntKind.i64.wrap (IntKind.i64.wrap ((16 : Int) - (↑f_Body.size : Int)) + (2 : Int))).toNat (0 : Int))).size ≤ (140737488355328 : Nat)))
           ((s_l5On.f k (0 : Int) (d0 ++ d1 ++ d2 ++ d6 ++ f_Body ++ strOfNums (List.replicate (IntKind.i64.wrap (IntKind.i64.wrap ((16 : Int) - (↑f_Body.size : Int)) + (2 : Int))).toNat (0 : Int)))).bind fun d7 =>
            (s_l6Low.f k d7).bind fun d8 =>
            gd (decide ((d0 ++ d1 ++ d2 ++ d6 ++ f_Body ++ strOfNums (List.replicate (IntKind.i64.wrap (IntKind.i64.wrap ((16 : Int) - (↑f_Body.size : Int)) + (2 : Int))).toNat (0 : Int))).size + ByteArray.size d8 ≤ (140737488355328 : Nat)))
            (some (d0 ++ d1 ++ d2 ++ d6 ++ f_Body ++ strOfNums (List.replicate (IntKind.i64.wrap (IntKind.i64.wrap ((16 : Int) - (↑f_Body.size : Int)) + (2 : Int))).toNat (0 : Int)) ++ d8))))))
        ((s_l6Bytes.f k (↑f_Body.size : Int) (1 : Int)).bind fun d9 =>
         gd (decide ((d0 ++ d1 ++ d2).size + ByteArray.size d9 ≤ (140737488355328 : Nat)))
         (gd (decide ((d0 ++ d1 ++ d2 ++ d9).size + f_Body.size ≤ (140737488355328 : Nat)))
          (gd (decide ((d0 ++ d1 ++ d2 ++ d9 ++ f_Body).size + (strOfNums (List.replicate (IntKind.i64.wrap (IntKind.i64.wrap ((16 : Int) - (↑f_Body.size : Int)) + (2 : Int))).toNat (0 : Int))).size ≤ (140737488355328 : Nat)))
           ((s_l5On.f k (0 : Int) (d0 ++ d1 ++ d2 ++ d9 ++ f_Body ++ strOfNums (List.replicate (IntKind.i64.wrap (IntKind.i64.wrap ((16 : Int) - (↑f_Body.size : Int)) + (2 : Int))).toNat (0 : Int)))).bind fun d10 =>
            (s_l6Low.f k d10).bind fun d11 =>
            gd (decide ((d0 ++ d1 ++ d2 ++ d9 ++ f_Body ++ strOfNums (List.replicate (IntKind.i64.wrap (IntKind.i64.wrap ((16 : Int) - (↑f_Body.size : Int)) + (2 : Int))).toNat (0 : Int))).size + ByteArray.size d11 ≤ (140737488355328 : Nat)))
            (some (d0 ++ d1 ++ d2 ++ d9 ++ f_Body ++ strOfNums (List.replicate (IntKind.i64.wrap (IntKind.i64.wrap ((16 : Int) - (↑f_Body.size : Int)) + (2 : Int))).toNat (0 : Int)) ++ d11))))))))))
    (gd (mkOk (IntKind.i64.wrap (IntKind.i64.wrap ((16 : Int) - (↑f_Body.size : Int)) + (2 : Int))) (IntKind.i64.wrap (IntKind.i64.wrap ((16 : Int) - (↑f_Body.size : Int)) + (2 : Int))) (Try.prog.bytesOf (5 : Nat)))
     (both
      ((s_l6Bytes.f k f_Epoch (2 : Int)).bind fun d12 =>
       gd (decide ((d0 ++ d1).size + ByteArray.size d12 ≤ (140737488355328 : Nat)))
       (both
        ((s_l6Bytes.f k (↑f_Body.size : Int) (1 : Int)).bind fun d13 =>
         gd (decide ((d0 ++ d1 ++ d12).size + ByteArray.size d13 ≤ (140737488355328 : Nat)))
         (gd (decide ((d0 ++ d1 ++ d12 ++ d13).size + f_Body.size ≤ (140737488355328 : Nat)))
          (gd (decide ((d0 ++ d1 ++ d12 ++ d13 ++ f_Body).size + (strOfNums (List.replicate (IntKind.i64.wrap (IntKind.i64.wrap ((16 : Int) - (↑f_Body.size : Int)) + (2 : Int))).toNat (0 : Int))).size ≤ (140737488355328 : Nat)))
           ((s_l5On.f k (0 : Int) (d0 ++ d1 ++ d12 ++ d13 ++ f_Body ++ strOfNums (List.replicate (IntKind.i64.wrap (IntKind.i64.wrap ((16 : Int) - (↑f_Body.size : Int)) + (2 : Int))).toNat (0 : Int)))).bind fun d14 =>
            (s_l6Low.f k d14).bind fun d15 =>
            gd (decide ((d0 ++ d1 ++ d12 ++ d13 ++ f_Body ++ strOfNums (List.replicate (IntKind.i64.wrap (IntKind.i64.wrap ((16 : Int) - (↑f_Body.size : Int)) + (2 : Int))).toNat (0 : Int))).size + ByteArray.size d15 ≤ (140737488355328 : Nat)))
            (some (d0 ++ d1 ++ d12 ++ d13 ++ f_Body ++ strOfNums (List.replicate (IntKind.i64.wrap (IntKind.i64.wrap ((16 : Int) - (↑f_Body.size : Int)) + (2 : Int))).toNat (0 : Int)) ++ d15))))))
        ((s_l6Bytes.f k (↑f_Body.size : Int) (1 : Int)).bind fun d16 =>
         gd (decide ((d0 ++ d1 ++ d12).size + ByteArray.size d16 ≤ (140737488355328 : Nat)))
         (gd (decide ((d0 ++ d1 ++ d12 ++ d16).size + f_Body.size ≤ (140737488355328 : Nat)))
          (gd (decide ((d0 ++ d1 ++ d12 ++ d16 ++ f_Body).size + (strOfNums (List.replicate (IntKind.i64.wrap (IntKind.i64.wrap ((16 : Int) - (↑f_Body.size : Int)) + (2 : Int))).toNat (0 : Int))).size ≤ (140737488355328 : Nat)))
           ((s_l5On.f k (0 : Int) (d0 ++ d1 ++ d12 ++ d16 ++ f_Body ++ strOfNums (List.replicate (IntKind.i64.wrap (IntKind.i64.wrap ((16 : Int) - (↑f_Body.size : Int)) + (2 : Int))).toNat (0 : Int)))).bind fun d17 =>
            (s_l6Low.f k d17).bind fun d18 =>
            gd (decide ((d0 ++ d1 ++ d12 ++ d16 ++ f_Body ++ strOfNums (List.replicate (IntKind.i64.wrap (IntKind.i64.wrap ((16 : Int) - (↑f_Body.size : Int)) + (2 : Int))).toNat (0 : Int))).size + ByteArray.size d18 ≤ (140737488355328 : Nat)))
            (some (d0 ++ d1 ++ d12 ++ d16 ++ f_Body ++ strOfNums (List.replicate (IntKind.i64.wrap (IntKind.i64.wrap ((16 : Int) - (↑f_Body.size : Int)) + (2 : Int))).toNat (0 : Int)) ++ d18))))))))
      ((s_l6Bytes.f k f_Epoch (2 : Int)).bind fun d19 =>
       gd (decide ((d0 ++ d1).size + ByteArray.size d19 ≤ (140737488355328 : Nat)))
       ((s_l6Bytes.f k (↑f_Body.size : Int) (1 : Int)).bind fun d20 =>
        gd (decide ((d0 ++ d1 ++ d19).size + ByteArray.size d20 ≤ (140737488355328 : Nat)))
        (gd (decide ((d0 ++ d1 ++ d19 ++ d20).size + f_Body.size ≤ (140737488355328 : Nat)))
         (gd (decide ((d0 ++ d1 ++ d19 ++ d20 ++ f_Body).size + (strOfNums (List.replicate (IntKind.i64.wrap (IntKind.i64.wrap ((16 : Int) - (↑f_Body.size : Int)) + (2 : Int))).toNat (0 : Int))).size ≤ (140737488355328 : Nat)))
          ((s_l5On.f k (0 : Int) (d0 ++ d1 ++ d19 ++ d20 ++ f_Body ++ strOfNums (List.replicate (IntKind.i64.wrap (IntKind.i64.wrap ((16 : Int) - (↑f_Body.size : Int)) + (2 : Int))).toNat (0 : Int)))).bind fun d21 =>
           (s_l6Low.f k d21).bind fun d22 =>
           gd (decide ((d0 ++ d1 ++ d19 ++ d20 ++ f_Body ++ strOfNums (List.replicate (IntKind.i64.wrap (IntKind.i64.wrap ((16 : Int) - (↑f_Body.size : Int)) + (2 : Int))).toNat (0 : Int))).size + ByteArray.size d22 ≤ (140737488355328 : Nat)))
           (some (d0 ++ d1 ++ d19 ++ d20 ++ f_Body ++ strOfNums (List.replicate (IntKind.i64.wrap (IntKind.i64.wrap ((16 : Int) - (↑f_Body.size : Int)) + (2 : Int))).toNat (0 : Int)) ++ d22)))))))))))
  (gd (mkOk (IntKind.i64.wrap (IntKind.i64.wrap ((16 : Int) - (↑f_Body.size : Int)) + (2 : Int))) (IntKind.i64.wrap (IntKind.i64.wrap ((16 : Int) - (↑f_Body.size : Int)) + (2 : Int))) (Try.prog.bytesOf (5 : Nat)))
   (both
    ((s_l6Bytes.f k f_At (2 : Int)).bind fun d23 =>
     gd (decide (ByteArray.size d0 + ByteArray.size d23 ≤ (140737488355328 : Nat)))
     (both
      ((s_l6Bytes.f k f_Epoch (2 : Int)).bind fun d24 =>
       gd (decide ((d0 ++ d23).size + ByteArray.size d24 ≤ (140737488355328 : Nat)))
       (both
        ((s_l6Bytes.f k (↑f_Body.size : Int) (1 : Int)).bind fun d25 =>
         gd (decide ((d0 ++ d23 ++ d24).size + ByteArray.size d25 ≤ (140737488355328 : Nat)))
         (gd (decide ((d0 ++ d23 ++ d24 ++ d25).size + f_Body.size ≤ (140737488355328 : Nat)))
          (gd (decide ((d0 ++ d23 ++ d24 ++ d25 ++ f_Body).size + (strOfNums (List.replicate (IntKind.i64.wrap (IntKind.i64.wrap ((16 : Int) - (↑f_Body.size : Int)) + (2 : Int))).toNat (0 : Int))).size ≤ (140737488355328 : Nat)))
           ((s_l5On.f k (0 : Int) (d0 ++ d23 ++ d24 ++ d25 ++ f_Body ++ strOfNums (List.replicate (IntKind.i64.wrap (IntKind.i64.wrap ((16 : Int) - (↑f_Body.size : Int)) + (2 : Int))).toNat (0 : Int)))).bind fun d26 =>
            (s_l6Low.f k d26).bind fun d27 =>
            gd (decide ((d0 ++ d23 ++ d24 ++ d25 ++ f_Body ++ strOfNums (List.replicate (IntKind.i64.wrap (IntKind.i64.wrap ((16 : Int) - (↑f_Body.size : Int)) + (2 : Int))).toNat (0 : Int))).size + ByteArray.size d27 ≤ (140737488355328 : Nat)))
            (some (d0 ++ d23 ++ d24 ++ d25 ++ f_Body ++ strOfNums (List.replicate (IntKind.i64.wrap (IntKind.i64.wrap ((16 : Int) - (↑f_Body.size : Int)) + (2 : Int))).toNat (0 : Int)) ++ d27))))))
        ((s_l6Bytes.f k (↑f_Body.size : Int) (1 : Int)).bind fun d28 =>
         gd (decide ((d0 ++ d23 ++ d24).size + ByteArray.size d28 ≤ (140737488355328 : Nat)))
         (gd (decide ((d0 ++ d23 ++ d24 ++ d28).size + f_Body.size ≤ (140737488355328 : Nat)))
          (gd (decide ((d0 ++ d23 ++ d24 ++ d28 ++ f_Body).size + (strOfNums (List.replicate (IntKind.i64.wrap (IntKind.i64.wrap ((16 : Int) - (↑f_Body.size : Int)) + (2 : Int))).toNat (0 : Int))).size ≤ (140737488355328 : Nat)))
           ((s_l5On.f k (0 : Int) (d0 ++ d23 ++ d24 ++ d28 ++ f_Body ++ strOfNums (List.replicate (IntKind.i64.wrap (IntKind.i64.wrap ((16 : Int) - (↑f_Body.size : Int)) + (2 : Int))).toNat (0 : Int)))).bind fun d29 =>
            (s_l6Low.f k d29).bind fun d30 =>
            gd (decide ((d0 ++ d23 ++ d24 ++ d28 ++ f_Body ++ strOfNums (List.replicate (IntKind.i64.wrap (IntKind.i64.wrap ((16 : Int) - (↑f_Body.size : Int)) + (2 : Int))).toNat (0 : Int))).size + ByteArray.size d30 ≤ (140737488355328 : Nat)))
            (some (d0 ++ d23 ++ d24 ++ d28 ++ f_Body ++ strOfNums (List.replicate (IntKind.i64.wrap (IntKind.i64.wrap ((16 : Int) - (↑f_Body.size : Int)) + (2 : Int))).toNat (0 : Int)) ++ d30))))))))
      ((s_l6Bytes.f k f_Epoch (2 : Int)).bind fun d31 =>
       gd (decide ((d0 ++ d23).size + ByteArray.size d31 ≤ (140737488355328 : Nat)))
       ((s_l6Bytes.f k (↑f_Body.size : Int) (1 : Int)).bind fun d32 =>
        gd (decide ((d0 ++ d23 ++ d31).size + ByteArray.size d32 ≤ (140737488355328 : Nat)))
        (gd (decide ((d0 ++ d23 ++ d31 ++ d32).size + f_Body.size ≤ (140737488355328 : Nat)))
         (gd (decide ((d0 ++ d23 ++ d31 ++ d32 ++ f_Body).size + (strOfNums (List.replicate (IntKind.i64.wrap (IntKind.i64.wrap ((16 : Int) - (↑f_Body.size : Int)) + (2 : Int))).toNat (0 : Int))).size ≤ (140737488355328 : Nat)))
          ((s_l5On.f k (0 : Int) (d0 ++ d23 ++ d31 ++ d32 ++ f_Body ++ strOfNums (List.replicate (IntKind.i64.wrap (IntKind.i64.wrap ((16 : Int) - (↑f_Body.size : Int)) + (2 : Int))).toNat (0 : Int)))).bind fun d33 =>
           (s_l6Low.f k d33).bind fun d34 =>
           gd (decide ((d0 ++ d23 ++ d31 ++ d32 ++ f_Body ++ strOfNums (List.replicate (IntKind.i64.wrap (IntKind.i64.wrap ((16 : Int) - (↑f_Body.size : Int)) + (2 : Int))).toNat (0 : Int))).size + ByteArray.size d34 ≤ (140737488355328 : Nat)))
           (some (d0 ++ d23 ++ d31 ++ d32 ++ f_Body ++ strOfNums (List.replicate (IntKind.i64.wrap (IntKind.i64.wrap ((16 : Int) - (↑f_Body.size : Int)) + (2 : Int))).toNat (0 : Int)) ++ d34)))))))))
    ((s_l6Bytes.f k f_At (2 : Int)).bind fun d35 =>
     gd (decide (ByteArray.size d0 + ByteArray.size d35 ≤ (140737488355328 : Nat)))
     ((s_l6Bytes.f k f_Epoch (2 : Int)).bind fun d36 =>
      gd (decide ((d0 ++ d35).size + ByteArray.size d36 ≤ (140737488355328 : Nat)))
      ((s_l6Bytes.f k (↑f_Body.size : Int) (1 : Int)).bind fun d37 =>
       gd (decide ((d0 ++ d35 ++ d36).size + ByteArray.size d37 ≤ (140737488355328 : Nat)))
       (gd (decide ((d0 ++ d35 ++ d36 ++ d37).size + f_Body.size ≤ (140737488355328 : Nat)))
        (gd (decide ((d0 ++ d35 ++ d36 ++ d37 ++ f_Body).size + (strOfNums (List.replicate (IntKind.i64.wrap (IntKind.i64.wrap ((16 : Int) - (↑f_Body.size : Int)) + (2 : Int))).toNat (0 : Int))).size ≤ (140737488355328 : Nat)))
         ((s_l5On.f k (0 : Int) (d0 ++ d35 ++ d36 ++ d37 ++ f_Body ++ strOfNums (List.replicate (IntKind.i64.wrap (IntKind.i64.wrap ((16 : Int) - (↑f_Body.size : Int)) + (2 : Int))).toNat (0 : Int)))).bind fun d38 =>
          (s_l6Low.f k d38).bind fun d39 =>
          gd (decide ((d0 ++ d35 ++ d36 ++ d37 ++ f_Body ++ strOfNums (List.replicate (IntKind.i64.wrap (IntKind.i64.wrap ((16 : Int) - (↑f_Body.size : Int)) + (2 : Int))).toNat (0 : Int))).size + ByteArray.size d39 ≤ (140737488355328 : Nat)))
          (some (d0 ++ d35 ++ d36 ++ d37 ++ f_Body ++ strOfNums (List.replicate (IntKind.i64.wrap (IntKind.i64.wrap ((16 : Int) - (↑f_Body.size : Int)) + (2 : Int))).toNat (0 : Int)) ++ d39)))))))))))
 (gd (mkOk (IntKind.i64.wrap (IntKind.i64.wrap ((16 : Int) - (↑f_Body.size : Int)) + (2 : Int))) (IntKind.i64.wrap (IntKind.i64.wrap ((16 : Int) - (↑f_Body.size : Int)) + (2 : Int))) (Try.prog.bytesOf (5 : Nat)))
  (both
   ((s_l6Bytes.f k f_Kind (1 : Int)).bind fun d40 =>
    both
    ((s_l6Bytes.f k f_At (2 : Int)).bind fun d41 =>
     gd (decide (ByteArray.size d40 + ByteArray.size d41 ≤ (140737488355328 : Nat)))
     (both
      ((s_l6Bytes.f k f_Epoch (2 : Int)).bind fun d42 =>
       gd (decide ((d40 ++ d41).size + ByteArray.size d42 ≤ (140737488355328 : Nat)))
       (both
        ((s_l6Bytes.f k (↑f_Body.size : Int) (1 : Int)).bind fun d43 =>
         gd (decide ((d40 ++ d41 ++ d42).size + ByteArray.size d43 ≤ (140737488355328 : Nat)))
         (gd (decide ((d40 ++ d41 ++ d42 ++ d43).size + f_Body.size ≤ (140737488355328 : Nat)))
          (gd (decide ((d40 ++ d41 ++ d42 ++ d43 ++ f_Body).size + (strOfNums (List.replicate (IntKind.i64.wrap (IntKind.i64.wrap ((16 : Int) - (↑f_Body.size : Int)) + (2 : Int))).toNat (0 : Int))).size ≤ (140737488355328 : Nat)))
           ((s_l5On.f k (0 : Int) (d40 ++ d41 ++ d42 ++ d43 ++ f_Body ++ strOfNums (List.replicate (IntKind.i64.wrap (IntKind.i64.wrap ((16 : Int) - (↑f_Body.size : Int)) + (2 : Int))).toNat (0 : Int)))).bind fun d44 =>
            (s_l6Low.f k d44).bind fun d45 =>
            gd (decide ((d40 ++ d41 ++ d42 ++ d43 ++ f_Body ++ strOfNums (List.replicate (IntKind.i64.wrap (IntKind.i64.wrap ((16 : Int) - (↑f_Body.size : Int)) + (2 : Int))).toNat (0 : Int))).size + ByteArray.size d45 ≤ (140737488355328 : Nat)))
            (some (d40 ++ d41 ++ d42 ++ d43 ++ f_Body ++ strOfNums (List.replicate (IntKind.i64.wrap (IntKind.i64.wrap ((16 : Int) - (↑f_Body.size : Int)) + (2 : Int))).toNat (0 : Int)) ++ d45))))))
        ((s_l6Bytes.f k (↑f_Body.size : Int) (1 : Int)).bind fun d46 =>
         gd (decide ((d40 ++ d41 ++ d42).size + ByteArray.size d46 ≤ (140737488355328 : Nat)))
         (gd (decide ((d40 ++ d41 ++ d42 ++ d46).size + f_Body.size ≤ (140737488355328 : Nat)))
          (gd (decide ((d40 ++ d41 ++ d42 ++ d46 ++ f_Body).size + (strOfNums (List.replicate (IntKind.i64.wrap (IntKind.i64.wrap ((16 : Int) - (↑f_Body.size : Int)) + (2 : Int))).toNat (0 : Int))).size ≤ (140737488355328 : Nat)))
           ((s_l5On.f k (0 : Int) (d40 ++ d41 ++ d42 ++ d46 ++ f_Body ++ strOfNums (List.replicate (IntKind.i64.wrap (IntKind.i64.wrap ((16 : Int) - (↑f_Body.size : Int)) + (2 : Int))).toNat (0 : Int)))).bind fun d47 =>
            (s_l6Low.f k d47).bind fun d48 =>
            gd (decide ((d40 ++ d41 ++ d42 ++ d46 ++ f_Body ++ strOfNums (List.replicate (IntKind.i64.wrap (IntKind.i64.wrap ((16 : Int) - (↑f_Body.size : Int)) + (2 : Int))).toNat (0 : Int))).size + ByteArray.size d48 ≤ (140737488355328 : Nat)))
            (some (d40 ++ d41 ++ d42 ++ d46 ++ f_Body ++ strOfNums (List.replicate (IntKind.i64.wrap (IntKind.i64.wrap ((16 : Int) - (↑f_Body.size : Int)) + (2 : Int))).toNat (0 : Int)) ++ d48))))))))
      ((s_l6Bytes.f k f_Epoch (2 : Int)).bind fun d49 =>
       gd (decide ((d40 ++ d41).size + ByteArray.size d49 ≤ (140737488355328 : Nat)))
       ((s_l6Bytes.f k (↑f_Body.size : Int) (1 : Int)).bind fun d50 =>
        gd (decide ((d40 ++ d41 ++ d49).size + ByteArray.size d50 ≤ (140737488355328 : Nat)))
        (gd (decide ((d40 ++ d41 ++ d49 ++ d50).size + f_Body.size ≤ (140737488355328 : Nat)))
         (gd (decide ((d40 ++ d41 ++ d49 ++ d50 ++ f_Body).size + (strOfNums (List.replicate (IntKind.i64.wrap (IntKind.i64.wrap ((16 : Int) - (↑f_Body.size : Int)) + (2 : Int))).toNat (0 : Int))).size ≤ (140737488355328 : Nat)))
          ((s_l5On.f k (0 : Int) (d40 ++ d41 ++ d49 ++ d50 ++ f_Body ++ strOfNums (List.replicate (IntKind.i64.wrap (IntKind.i64.wrap ((16 : Int) - (↑f_Body.size : Int)) + (2 : Int))).toNat (0 : Int)))).bind fun d51 =>
           (s_l6Low.f k d51).bind fun d52 =>
           gd (decide ((d40 ++ d41 ++ d49 ++ d50 ++ f_Body ++ strOfNums (List.replicate (IntKind.i64.wrap (IntKind.i64.wrap ((16 : Int) - (↑f_Body.size : Int)) + (2 : Int))).toNat (0 : Int))).size + ByteArray.size d52 ≤ (140737488355328 : Nat)))
           (some (d40 ++ d41 ++ d49 ++ d50 ++ f_Body ++ strOfNums (List.replicate (IntKind.i64.wrap (IntKind.i64.wrap ((16 : Int) - (↑f_Body.size : Int)) + (2 : Int))).toNat (0 : Int)) ++ d52)))))))))
    ((s_l6Bytes.f k f_At (2 : Int)).bind fun d53 =>
     gd (decide (ByteArray.size d40 + ByteArray.size d53 ≤ (140737488355328 : Nat)))
     ((s_l6Bytes.f k f_Epoch (2 : Int)).bind fun d54 =>
      gd (decide ((d40 ++ d53).size + ByteArray.size d54 ≤ (140737488355328 : Nat)))
      ((s_l6Bytes.f k (↑f_Body.size : Int) (1 : Int)).bind fun d55 =>
       gd (decide ((d40 ++ d53 ++ d54).size + ByteArray.size d55 ≤ (140737488355328 : Nat)))
       (gd (decide ((d40 ++ d53 ++ d54 ++ d55).size + f_Body.size ≤ (140737488355328 : Nat)))
        (gd (decide ((d40 ++ d53 ++ d54 ++ d55 ++ f_Body).size + (strOfNums (List.replicate (IntKind.i64.wrap (IntKind.i64.wrap ((16 : Int) - (↑f_Body.size : Int)) + (2 : Int))).toNat (0 : Int))).size ≤ (140737488355328 : Nat)))
         ((s_l5On.f k (0 : Int) (d40 ++ d53 ++ d54 ++ d55 ++ f_Body ++ strOfNums (List.replicate (IntKind.i64.wrap (IntKind.i64.wrap ((16 : Int) - (↑f_Body.size : Int)) + (2 : Int))).toNat (0 : Int)))).bind fun d56 =>
          (s_l6Low.f k d56).bind fun d57 =>
          gd (decide ((d40 ++ d53 ++ d54 ++ d55 ++ f_Body ++ strOfNums (List.replicate (IntKind.i64.wrap (IntKind.i64.wrap ((16 : Int) - (↑f_Body.size : Int)) + (2 : Int))).toNat (0 : Int))).size + ByteArray.size d57 ≤ (140737488355328 : Nat)))
          (some (d40 ++ d53 ++ d54 ++ d55 ++ f_Body ++ strOfNums (List.replicate (IntKind.i64.wrap (IntKind.i64.wrap ((16 : Int) - (↑f_Body.size : Int)) + (2 : Int))).toNat (0 : Int)) ++ d57)))))))))
   ((s_l6Bytes.f k f_Kind (1 : Int)).bind fun d58 =>
    (s_l6Bytes.f k f_At (2 : Int)).bind fun d59 =>
    gd (decide (ByteArray.size d58 + ByteArray.size d59 ≤ (140737488355328 : Nat)))
    ((s_l6Bytes.f k f_Epoch (2 : Int)).bind fun d60 =>
     gd (decide ((d58 ++ d59).size + ByteArray.size d60 ≤ (140737488355328 : Nat)))
     ((s_l6Bytes.f k (↑f_Body.size : Int) (1 : Int)).bind fun d61 =>
      gd (decide ((d58 ++ d59 ++ d60).size + ByteArray.size d61 ≤ (140737488355328 : Nat)))
      (gd (decide ((d58 ++ d59 ++ d60 ++ d61).size + f_Body.size ≤ (140737488355328 : Nat)))
       (gd (decide ((d58 ++ d59 ++ d60 ++ d61 ++ f_Body).size + (strOfNums (List.replicate (IntKind.i64.wrap (IntKind.i64.wrap ((16 : Int) - (↑f_Body.size : Int)) + (2 : Int))).toNat (0 : Int))).size ≤ (140737488355328 : Nat)))
        ((s_l5On.f k (0 : Int) (d58 ++ d59 ++ d60 ++ d61 ++ f_Body ++ strOfNums (List.replicate (IntKind.i64.wrap (IntKind.i64.wrap ((16 : Int) - (↑f_Body.size : Int)) + (2 : Int))).toNat (0 : Int)))).bind fun d62 =>
         (s_l6Low.f k d62).bind fun d63 =>
         gd (decide ((d58 ++ d59 ++ d60 ++ d61 ++ f_Body ++ strOfNums (List.replicate (IntKind.i64.wrap (IntKind.i64.wrap ((16 : Int) - (↑f_Body.size : Int)) + (2 : Int))).toNat (0 : Int))).size + ByteArray.size d63 ≤ (140737488355328 : Nat)))
         (some (d58 ++ d59 ++ d60 ++ d61 ++ f_Body ++ strOfNums (List.replicate (IntKind.i64.wrap (IntKind.i64.wrap ((16 : Int) - (↑f_Body.size : Int)) + (2 : Int))).toNat (0 : Int)) ++ d63)))))))))) := (opq_eq _).trans (by kernel_rfl)
abbrev s_l7Held.s : Sig := ⟨65, [], [.val], [.agg [.row 9 .str, .row 9 .str, .row 4 .bool]], [.one (.own 3 (.int .i64))], [], [(0, [(3,true),(7,true),(8,false),(9,false)])]⟩
noncomputable def s_l7Held.C (k : Nat) : List (Nat × Ctr) := []
noncomputable def s_l7Held.f (k : Nat) (d_Plate : List ByteArray) (d_Held : List ByteArray) (d_Bad : List Bool) : Option (List Int) := opq (s_l7Held.s.run Try.prog (s_l7Held.C k) k (d_Plate, d_Held, d_Bad))
theorem s_l7Held.ok (k : Nat) : CtrOk Try.prog 65 (s_l7Held.s.ctr (fun x => s_l7Held.f k x.1 x.2.1 x.2.2)) := sig_ok s_l7Held.s .nil (by kernel_rfl) fun _ => opq_eq _
noncomputable def s_l7Held.l0 (k : Nat) (m : Nat) (t7 : List ByteArray) (t8 : Int) (t9 : Int) (h1 : List Int) : Option (List Int) := s_l7Held.s.head Try.prog (s_l7Held.C k) k 1 0 [] m [(3, AV.ref 1), (7, AV.row 9 Kind.str t7), (8, AV.int IntKind.i64 t8), (9, AV.int IntKind.i64 t9)] [Root.dead, Root.rows 3 (Kind.int IntKind.i64) h1]
theorem s_l7Held.l0_z (k : Nat) (t7 : List ByteArray) (t8 : Int) (t9 : Int) (h1 : List Int) : s_l7Held.l0 k 0 t7 t8 t9 h1 = none := by kernel_rfl
theorem s_l7Held.l0_s (k : Nat) (m : Nat) (t7 : List ByteArray) (t8 : Int) (t9 : Int) (h1 : List Int) : s_l7Held.l0 k (m + 1) t7 t8 t9 h1 =
 cn (decide (t9 < t8))
 (gd (inb t9 t7.length)
  (cn (!decide ((getAt ByteArray.empty t7 t9.toNat).toList = ByteArray.empty.toList))
   (gd (appOk (h1.length + [t9].length) (Try.prog.bytesOf (3 : Nat)))
    (s_l7Held.l0 k m t7 t8 (IntKind.i64.wrap (t9 + (1 : Int))) (h1 ++ [t9])))
   (s_l7Held.l0 k m t7 t8 (IntKind.i64.wrap (t9 + (1 : Int))) h1)))
 (some h1) := by kernel_rfl
theorem s_l7Held.f_eq (k : Nat) (d_Plate : List ByteArray) (d_Held : List ByteArray) (d_Bad : List Bool) : s_l7Held.f k d_Plate d_Held d_Bad =
 s_l7Held.l0 k k d_Held ((↑d_Held.length : Int)) ((0 : Int)) ([]) := (opq_eq _).trans (by kernel_rfl)
abbrev s_l1Has.s : Sig := ⟨103, [], [.val, .val], [.one (.row 3 (.int .i64)), .one (.int .i64)], [.one .bool], [], [(0, [(1,false),(7,true),(8,false),(9,false)])]⟩
noncomputable def s_l1Has.C (k : Nat) : List (Nat × Ctr) := []
noncomputable def s_l1Has.f (k : Nat) (l : List Int) (n : Int) : Option Bool := opq (s_l1Has.s.run Try.prog (s_l1Has.C k) k (l, n))
theorem s_l1Has.ok (k : Nat) : CtrOk Try.prog 103 (s_l1Has.s.ctr (fun x => s_l1Has.f k x.1 x.2)) := sig_ok s_l1Has.s .nil (by kernel_rfl) fun _ => opq_eq _
noncomputable def s_l1Has.l0 (k : Nat) (m : Nat) (n1 : Int) (t7 : List Int) (t8 : Int) (t9 : Int) : Option Bool := s_l1Has.s.head Try.prog (s_l1Has.C k) k 1 0 [] m [(1, AV.int IntKind.i64 n1), (7, AV.row 3 (Kind.int IntKind.i64) t7), (8, AV.int IntKind.i64 t8), (9, AV.int IntKind.i64 t9)] [Root.dead]
theorem s_l1Has.l0_z (k : Nat) (n1 : Int) (t7 : List Int) (t8 : Int) (t9 : Int) : s_l1Has.l0 k 0 n1 t7 t8 t9 = none := by kernel_rfl
theorem s_l1Has.l0_s (k : Nat) (m : Nat) (n1 : Int) (t7 : List Int) (t8 : Int) (t9 : Int) : s_l1Has.l0 k (m + 1) n1 t7 t8 t9 =
 cn (decide (t9 < t8))
 (gd (inb t9 t7.length)
  (cn (decide (getAt (0 : Int) t7 t9.toNat = n1))
   (some true)
   (s_l1Has.l0 k m n1 t7 t8 (IntKind.i64.wrap (t9 + (1 : Int))))))
 (some false) := by kernel_rfl
theorem s_l1Has.f_eq (k : Nat) (l : List Int) (n : Int) : s_l1Has.f k l n =
 s_l1Has.l0 k k n l ((↑l.length : Int)) ((0 : Int)) := (opq_eq _).trans (by kernel_rfl)
abbrev s_l7Kept.s : Sig := ⟨119, [], [.val, .val], [.agg [.row 9 .str, .row 9 .str, .row 4 .bool], .one (.row 3 (.int .i64))], [.one .bool], [], [(0, [(1,false),(5,true),(10,true),(11,false),(12,false)])]⟩
noncomputable def s_l7Kept.C (k : Nat) : List (Nat × Ctr) := [(65, s_l7Held.s.ctr (fun x => s_l7Held.f k x.1 x.2.1 x.2.2)), (103, s_l1Has.s.ctr (fun x => s_l1Has.f k x.1 x.2))]
noncomputable def s_l7Kept.f (k : Nat) (d_Plate : List ByteArray) (d_Held : List ByteArray) (d_Bad : List Bool) (kept : List Int) : Option Bool := opq (s_l7Kept.s.run Try.prog (s_l7Kept.C k) k ((d_Plate, d_Held, d_Bad), kept))
theorem s_l7Kept.ok (k : Nat) : CtrOk Try.prog 119 (s_l7Kept.s.ctr (fun x => s_l7Kept.f k x.1.1 x.1.2.1 x.1.2.2 x.2)) := sig_ok s_l7Kept.s (.cons (s_l7Held.ok k) (.cons (s_l1Has.ok k) .nil)) (by kernel_rfl) fun _ => opq_eq _
noncomputable def s_l7Kept.l0 (k : Nat) (m : Nat) (kept1 : List Int) (t10 : List Int) (t11 : Int) (t12 : Int) (h1 : List Int) : Option Bool := s_l7Kept.s.head Try.prog (s_l7Kept.C k) k 1 0 [] m [(1, AV.row 3 (Kind.int IntKind.i64) kept1), (5, AV.ref 1), (10, AV.row 3 (Kind.int IntKind.i64) t10), (11, AV.int IntKind.i64 t11), (12, AV.int IntKind.i64 t12)] [Root.dead, Root.rows 3 (Kind.int IntKind.i64) h1]
theorem s_l7Kept.l0_z (k : Nat) (kept1 : List Int) (t10 : List Int) (t11 : Int) (t12 : Int) (h1 : List Int) : s_l7Kept.l0 k 0 kept1 t10 t11 t12 h1 = none := by kernel_rfl
theorem s_l7Kept.l0_s (k : Nat) (m : Nat) (kept1 : List Int) (t10 : List Int) (t11 : Int) (t12 : Int) (h1 : List Int) : s_l7Kept.l0 k (m + 1) kept1 t10 t11 t12 h1 =
 cn (decide (t12 < t11))
 (gd (inb t12 t10.length)
  ((s_l1Has.f k h1 (getAt (0 : Int) t10 t12.toNat)).bind fun d1 =>
   cn (!d1)
   (some false)
   (cn (decide ((0 : Int) < t12))
    (gd (inb (IntKind.i64.wrap (t12 - (1 : Int))) kept1.length)
     (cn (decide (getAt (0 : Int) t10 t12.toNat ≤ getAt (0 : Int) kept1 (IntKind.i64.wrap (t12 - (1 : Int))).toNat))
      (some false)
      (s_l7Kept.l0 k m kept1 t10 t11 (IntKind.i64.wrap (t12 + (1 : Int))) h1)))
    (s_l7Kept.l0 k m kept1 t10 t11 (IntKind.i64.wrap (t12 + (1 : Int))) h1))))
 (some true) := by kernel_rfl
theorem s_l7Kept.f_eq (k : Nat) (d_Plate : List ByteArray) (d_Held : List ByteArray) (d_Bad : List Bool) (kept : List Int) : s_l7Kept.f k d_Plate d_Held d_Bad kept =
 (s_l7Held.f k d_Plate d_Held d_Bad).bind fun d0 =>
 s_l7Kept.l0 k k kept kept ((↑kept.length : Int)) ((0 : Int)) d0 := (opq_eq _).trans (by kernel_rfl)
abbrev s_l7Crash.s : Sig := ⟨64, [.agg 3, .one], [.chg, .chg, .chg, .val], [.one (.row 9 .str), .one (.row 9 .str), .one (.row 4 .bool), .one (.row 3 (.int .i64))], [.agg [.arg 1, .arg 2, .arg 3]], [.rows 9 .str, .rows 9 .str, .rows 4 .bool], [(0, [(1,false),(2,false),(4,false),(8,true),(9,false),(10,false)])]⟩
noncomputable def s_l7Crash.C (k : Nat) : List (Nat × Ctr) := [(103, s_l1Has.s.ctr (fun x => s_l1Has.f k x.1 x.2))]
noncomputable def s_l7Crash.f (k : Nat) (d_Plate : List ByteArray) (d_Held : List ByteArray) (d_Bad : List Bool) (kept : List Int) : Option ((Unit × Unit × Unit) × List ByteArray × List ByteArray × List Bool) := opq (s_l7Crash.s.run Try.prog (s_l7Crash.C k) k (d_Plate, d_Held, d_Bad, kept))
theorem s_l7Crash.ok (k : Nat) : CtrOk Try.prog 64 (s_l7Crash.s.ctr (fun x => s_l7Crash.f k x.1 x.2.1 x.2.2.1 x.2.2.2)) := sig_ok s_l7Crash.s (.cons (s_l1Has.ok k) .nil) (by kernel_rfl) fun _ => opq_eq _
noncomputable def s_l7Crash.l0 (k : Nat) (m : Nat) (kept1 : List Int) (t9 : Int) (t10 : Int) (h1 : List ByteArray) (h2 : List ByteArray) (h3 : List Bool) : Option ((Unit × Unit × Unit) × List ByteArray × List ByteArray × List Bool) := s_l7Crash.s.head Try.prog (s_l7Crash.C k) k 4 0 [] m [(1, AV.row 3 (Kind.int IntKind.i64) kept1), (2, AV.ptr 4 0 0), (4, AV.ptr 5 0 0), (8, AV.ref 2), (9, AV.int IntKind.i64 t9), (10, AV.int IntKind.i64 t10)] [Root.dead, Root.rows 9 Kind.str h1, Root.rows 9 Kind.str h2, Root.rows 4 Kind.bool h3, Root.box 38 [AV.ref 1, AV.ref 2, AV.ref 3], Root.box 38 [AV.nil 9 Kind.str, AV.nil 9 Kind.str, AV.nil 4 Kind.bool]]
theorem s_l7Crash.l0_z (k : Nat) (kept1 : List Int) (t9 : Int) (t10 : Int) (h1 : List ByteArray) (h2 : List ByteArray) (h3 : List Bool) : s_l7Crash.l0 k 0 kept1 t9 t10 h1 h2 h3 = none := by kernel_rfl
theorem s_l7Crash.l0_s (k : Nat) (m : Nat) (kept1 : List Int) (t9 : Int) (t10 : Int) (h1 : List ByteArray) (h2 : List ByteArray) (h3 : List Bool) : s_l7Crash.l0 k (m + 1) kept1 t9 t10 h1 h2 h3 =
 cn (decide (t10 < t9))
 (gd (inb t10 h2.length)
  ((s_l1Has.f k kept1 t10).bind fun d0 =>
   cn d0
   (gd (inb t10 h1.length)
    (gd (inb t10 h2.length)
     (s_l7Crash.l0 k m kept1 t9 (IntKind.i64.wrap (t10 + (1 : Int))) (h1.set t10.toNat (getAt ByteArray.empty h2 t10.toNat)) (h2.set t10.toNat ByteArray.empty) h3)))
   (gd (inb t10 h2.length)
    (s_l7Crash.l0 k m kept1 t9 (IntKind.i64.wrap (t10 + (1 : Int))) h1 (h2.set t10.toNat ByteArray.empty) h3))))
 (some ((((), (), ()), h1, h2, h3))) := by kernel_rfl
theorem s_l7Crash.f_eq (k : Nat) (d_Plate : List ByteArray) (d_Held : List ByteArray) (d_Bad : List Bool) (kept : List Int) : s_l7Crash.f k d_Plate d_Held d_Bad kept =
 s_l7Crash.l0 k k kept ((↑d_Held.length : Int)) ((0 : Int)) d_Plate d_Held d_Bad := (opq_eq _).trans (by kernel_rfl)
abbrev s_l7There.s : Sig := ⟨124, [], [.val, .val], [.agg [.row 9 .str, .row 9 .str, .row 4 .bool], .one (.int .i64)], [.one .bool], [], []⟩
noncomputable def s_l7There.C (k : Nat) : List (Nat × Ctr) := []
noncomputable def s_l7There.f (k : Nat) (d_Plate : List ByteArray) (d_Held : List ByteArray) (d_Bad : List Bool) (at_ : Int) : Option Bool := opq (s_l7There.s.run Try.prog (s_l7There.C k) k ((d_Plate, d_Held, d_Bad), at_))
theorem s_l7There.ok (k : Nat) : CtrOk Try.prog 124 (s_l7There.s.ctr (fun x => s_l7There.f k x.1.1 x.1.2.1 x.1.2.2 x.2)) := sig_ok s_l7There.s .nil (by kernel_rfl) fun _ => opq_eq _
theorem s_l7There.f_eq (k : Nat) (d_Plate : List ByteArray) (d_Held : List ByteArray) (d_Bad : List Bool) (at_ : Int) : s_l7There.f k d_Plate d_Held d_Bad at_ =
 cn (decide ((0 : Int) ≤ at_))
 (some (decide (at_ < (↑d_Plate.length : Int))))
 (some false) := (opq_eq _).trans (by kernel_rfl)
abbrev s_l7Rot.s : Sig := ⟨125, [], [.val, .val], [.one .str, .one .str], [.one .str], [], [(0, [(1,false),(5,true),(6,false)])]⟩
noncomputable def s_l7Rot.C (k : Nat) : List (Nat × Ctr) := []
noncomputable def s_l7Rot.f (k : Nat) (s : ByteArray) (mask : ByteArray) : Option ByteArray := opq (s_l7Rot.s.run Try.prog (s_l7Rot.C k) k (s, mask))
theorem s_l7Rot.ok (k : Nat) : CtrOk Try.prog 125 (s_l7Rot.s.ctr (fun x => s_l7Rot.f k x.1 x.2)) := sig_ok s_l7Rot.s .nil (by kernel_rfl) fun _ => opq_eq _
noncomputable def s_l7Rot.l0 (k : Nat) (m : Nat) (mask1 : ByteArray) (i6 : Int) (h1 : List Int) : Option ByteArray := s_l7Rot.s.head Try.prog (s_l7Rot.C k) k 1 0 [] m [(1, AV.str mask1), (5, AV.ref 1), (6, AV.int IntKind.i64 i6)] [Root.dead, Root.rows 5 (Kind.int IntKind.u8) h1]
theorem s_l7Rot.l0_z (k : Nat) (mask1 : ByteArray) (i6 : Int) (h1 : List Int) : s_l7Rot.l0 k 0 mask1 i6 h1 = none := by kernel_rfl
theorem s_l7Rot.l0_s (k : Nat) (m : Nat) (mask1 : ByteArray) (i6 : Int) (h1 : List Int) : s_l7Rot.l0 k (m + 1) mask1 i6 h1 =
 cn (decide (i6 < (↑mask1.size : Int)))
 (gd (inb i6 h1.length)
  (gd (inb i6 mask1.size)
   (gd (inb i6 h1.length)
    (s_l7Rot.l0 k m mask1 (IntKind.i64.wrap (i6 + (1 : Int))) (h1.set i6.toNat (IntKind.u8.wrap (↑(BitVec.ofInt (8 : Nat) (getAt (0 : Int) h1 i6.toNat) ^^^ BitVec.ofInt (8 : Nat) (↑(mask1.data.getD i6.toNat (0 : UInt8)).toNat : Int)).toNat : Int)))))))
 (some (strOfNums h1)) := by kernel_rfl
theorem s_l7Rot.f_eq (k : Nat) (s : ByteArray) (mask : ByteArray) : s_l7Rot.f k s mask =
 gd (decide (s.size ≤ (70368744177664 : Nat)))
 (s_l7Rot.l0 k k mask ((0 : Int)) (bytesL s)) := (opq_eq _).trans (by kernel_rfl)
abbrev s_l7Step.s : Sig := ⟨100, [.agg 3, .one], [.chg, .chg, .chg, .val], [.one (.row 9 .str), .one (.row 9 .str), .one (.row 4 .bool), .agg [.int .i64, .int .i64, .str, .row 3 (.int .i64)]], [.agg [.arg 1, .arg 2, .arg 3], .one .bool], [.rows 9 .str, .rows 9 .str, .rows 4 .bool], []⟩
noncomputable def s_l7Step.C (k : Nat) : List (Nat × Ctr) := [(64, s_l7Crash.s.ctr (fun x => s_l7Crash.f k x.1 x.2.1 x.2.2.1 x.2.2.2)), (65, s_l7Held.s.ctr (fun x => s_l7Held.f k x.1 x.2.1 x.2.2)), (79, s_l1In.s.ctr (fun x => s_l1In.f k x.1 x.2.1 x.2.2)), (119, s_l7Kept.s.ctr (fun x => s_l7Kept.f k x.1.1 x.1.2.1 x.1.2.2 x.2)), (124, s_l7There.s.ctr (fun x => s_l7There.f k x.1.1 x.1.2.1 x.1.2.2 x.2)), (125, s_l7Rot.s.ctr (fun x => s_l7Rot.f k x.1 x.2))]
noncomputable def s_l7Step.f (k : Nat) (d_Plate : List ByteArray) (d_Held : List ByteArray) (d_Bad : List Bool) (x_Kind : Int) (x_At : Int) (x_Text : ByteArray) (x_Kept : List Int) : Option (((Unit × Unit × Unit) × Bool) × List ByteArray × List ByteArray × List Bool) := opq (s_l7Step.s.run Try.prog (s_l7Step.C k) k (d_Plate, d_Held, d_Bad, (x_Kind, x_At, x_Text, x_Kept)))
theorem s_l7Step.ok (k : Nat) : CtrOk Try.prog 100 (s_l7Step.s.ctr (fun x => s_l7Step.f k x.1 x.2.1 x.2.2.1 x.2.2.2.1 x.2.2.2.2.1 x.2.2.2.2.2.1 x.2.2.2.2.2.2)) := sig_ok s_l7Step.s (.cons (s_l7Crash.ok k) (.cons (s_l7Held.ok k) (.cons (s_l1In.ok k) (.cons (s_l7Kept.ok k) (.cons (s_l7There.ok k) (.cons (s_l7Rot.ok k) .nil)))))) (by kernel_rfl) fun _ => opq_eq _
theorem s_l7Step.f_eq (k : Nat) (d_Plate : List ByteArray) (d_Held : List ByteArray) (d_Bad : List Bool) (x_Kind : Int) (x_At : Int) (x_Text : ByteArray) (x_Kept : List Int) : s_l7Step.f k d_Plate d_Held d_Bad x_Kind x_At x_Text x_Kept =
 cn (decide (x_Kind = (2 : Int)))
 (cn (!decide (x_At = (0 : Int)))
  (some (((((), (), ()), false), d_Plate, d_Held, d_Bad)))
  (cn (!decide (x_Text.toList = ByteArray.empty.toList))
   (some (((((), (), ()), false), d_Plate, d_Held, d_Bad)))
   (cn (decide (x_Kind = (2 : Int)))
    (cn (decide ((0 : Int) < (↑x_Kept.length : Int)))
     (some (((((), (), ()), false), d_Plate, d_Held, d_Bad)))
     ((s_l7Kept.f k d_Plate d_Held d_Bad x_Kept).bind fun d20 =>
      cn (!d20)
      (some (((((), (), ()), false), d_Plate, d_Held, d_Bad)))
      (cn (decide (x_Kind = (2 : Int)))
       ((s_l7Held.f k d_Plate d_Held d_Bad).bind fun d22 =>
        (s_l7Crash.f k d_Plate d_Held d_Bad d22).bind fun d23 =>
        some (((((), (), ()), true), d23.snd.fst, d23.snd.snd.fst, d23.snd.snd.snd)))
       ((s_l7Crash.f k d_Plate d_Held d_Bad x_Kept).bind fun d21 =>
        some (((((), (), ()), true), d21.snd.fst, d21.snd.snd.fst, d21.snd.snd.snd))))))
    ((s_l7Kept.f k d_Plate d_Held d_Bad x_Kept).bind fun d16 =>
     cn (!d16)
     (some (((((), (), ()), false), d_Plate, d_Held, d_Bad)))
     (cn (decide (x_Kind = (2 : Int)))
      ((s_l7Held.f k d_Plate d_Held d_Bad).bind fun d18 =>
       (s_l7Crash.f k d_Plate d_Held d_Bad d18).bind fun d19 =>
       some (((((), (), ()), true), d19.snd.fst, d19.snd.snd.fst, d19.snd.snd.snd)))
      ((s_l7Crash.f k d_Plate d_Held d_Bad x_Kept).bind fun d17 =>
       some (((((), (), ()), true), d17.snd.fst, d17.snd.snd.fst, d17.snd.snd.snd))))))))
 (cn (decide (x_Kind = (3 : Int)))
  (cn (!decide (x_At = (0 : Int)))
   (some (((((), (), ()), false), d_Plate, d_Held, d_Bad)))
   (cn (!decide (x_Text.toList = ByteArray.empty.toList))
    (some (((((), (), ()), false), d_Plate, d_Held, d_Bad)))
    (cn (decide (x_Kind = (2 : Int)))
     (cn (decide ((0 : Int) < (↑x_Kept.length : Int)))
      (some (((((), (), ()), false), d_Plate, d_Held, d_Bad)))
      ((s_l7Kept.f k d_Plate d_Held d_Bad x_Kept).bind fun d12 =>
       cn (!d12)
       (some (((((), (), ()), false), d_Plate, d_Held, d_Bad)))
       (cn (decide (x_Kind = (2 : Int)))
        ((s_l7Held.f k d_Plate d_Held d_Bad).bind fun d14 =>
         (s_l7Crash.f k d_Plate d_Held d_Bad d14).bind fun d15 =>
         some (((((), (), ()), true), d15.snd.fst, d15.snd.snd.fst, d15.snd.snd.snd)))
        ((s_l7Crash.f k d_Plate d_Held d_Bad x_Kept).bind fun d13 =>
         some (((((), (), ()), true), d13.snd.fst, d13.snd.snd.fst, d13.snd.snd.snd))))))
     ((s_l7Kept.f k d_Plate d_Held d_Bad x_Kept).bind fun d8 =>
      cn (!d8)
      (some (((((), (), ()), false), d_Plate, d_Held, d_Bad)))
      (cn (decide (x_Kind = (2 : Int)))
       ((s_l7Held.f k d_Plate d_Held d_Bad).bind fun d10 =>
        (s_l7Crash.f k d_Plate d_Held d_Bad d10).bind fun d11 =>
        some (((((), (), ()), true), d11.snd.fst, d11.snd.snd.fst, d11.snd.snd.snd)))
       ((s_l7Crash.f k d_Plate d_Held d_Bad x_Kept).bind fun d9 =>
        some (((((), (), ()), true), d9.snd.fst, d9.snd.snd.fst, d9.snd.snd.snd))))))))
  ((s_l7There.f k d_Plate d_Held d_Bad x_At).bind fun d0 =>
   cn (!d0)
   (some (((((), (), ()), false), d_Plate, d_Held, d_Bad)))
   (cn (decide ((0 : Int) < (↑x_Kept.length : Int)))
    (some (((((), (), ()), false), d_Plate, d_Held, d_Bad)))
    (cn (decide (x_Kind = (1 : Int)))
     (gd (inb x_At d_Bad.length)
      (cn (!getAt false d_Bad x_At.toNat)
       ((s_l1In.f k (↑x_Text.size : Int) (1 : Int) (28 : Int)).bind fun d5 =>
        cn d5
        (gd (inb x_At d_Held.length)
         (some (((((), (), ()), true), d_Plate, d_Held.set x_At.toNat x_Text, d_Bad))))
        (cn (decide (x_Kind = (4 : Int)))
         (gd (inb x_At d_Held.length)
          (cn (decide ((getAt ByteArray.empty d_Held x_At.toNat).toList = ByteArray.empty.toList))
           (gd (inb x_At d_Plate.length)
            (cn (!decide ((getAt ByteArray.empty d_Plate x_At.toNat).toList = ByteArray.empty.toList))
             (gd (inb x_At d_Plate.length)
              ((s_l1In.f k (↑x_Text.size : Int) (1 : Int) (↑(getAt ByteArray.empty d_Plate x_At.toNat).size : Int)).bind fun d6 =>
               cn d6
               (gd (inb x_At d_Plate.length)
                ((s_l7Rot.f k (getAt ByteArray.empty d_Plate x_At.toNat) x_Text).bind fun d7 =>
                 gd (inb x_At d_Plate.length)
                 (some (((((), (), ()), true), d_Plate.set x_At.toNat d7, d_Held, d_Bad)))))
               (cn (decide (x_Kind = (5 : Int)))
                (cn (decide (x_Text.toList = ByteArray.empty.toList))
                 (gd (inb x_At d_Bad.length)
                  (gd (inb x_At d_Held.length)
                   (some (((((), (), ()), true), d_Plate, d_Held.set x_At.toNat ByteArray.empty, d_Bad.set x_At.toNat true)))))
                 (cn (decide (x_Kind = (6 : Int)))
                  (cn (decide (x_Text.toList = ByteArray.empty.toList))
                   (gd (inb x_At d_Bad.length)
                    (cn (getAt false d_Bad x_At.toNat)
                     (gd (inb x_At d_Bad.length)
                      (gd (inb x_At d_Plate.length)
                       (some (((((), (), ()), true), d_Plate.set x_At.toNat ByteArray.empty, d_Held, d_Bad.set x_At.toNat false)))))
                     (some (((((), (), ()), false), d_Plate, d_Held, d_Bad)))))
                   (some (((((), (), ()), false), d_Plate, d_Held, d_Bad))))
                  (some (((((), (), ()), false), d_Plate, d_Held, d_Bad)))))
                (cn (decide (x_Kind = (6 : Int)))
                 (cn (decide (x_Text.toList = ByteArray.empty.toList))
                  (gd (inb x_At d_Bad.length)
                   (cn (getAt false d_Bad x_At.toNat)
                    (gd (inb x_At d_Bad.length)
                     (gd (inb x_At d_Plate.length)
                      (some (((((), (), ()), true), d_Plate.set x_At.toNat ByteArray.empty, d_Held, d_Bad.set x_At.toNat false)))))
                    (some (((((), (), ()), false), d_Plate, d_Held, d_Bad)))))
                  (some (((((), (), ()), false), d_Plate, d_Held, d_Bad))))
                 (some (((((), (), ()), false), d_Plate, d_Held, d_Bad)))))))
             (cn (decide (x_Kind = (5 : Int)))
              (cn (decide (x_Text.toList = ByteArray.empty.toList))
               (gd (inb x_At d_Bad.length)
                (gd (inb x_At d_Held.length)
                 (some (((((), (), ()), true), d_Plate, d_Held.set x_At.toNat ByteArray.empty, d_Bad.set x_At.toNat true)))))
               (cn (decide (x_Kind = (6 : Int)))
                (cn (decide (x_Text.toList = ByteArray.empty.toList))
                 (gd (inb x_At d_Bad.length)
                  (cn (getAt false d_Bad x_At.toNat)
                   (gd (inb x_At d_Bad.length)
                    (gd (inb x_At d_Plate.length)
                     (some (((((), (), ()), true), d_Plate.set x_At.toNat ByteArray.empty, d_Held, d_Bad.set x_At.toNat false)))))
                   (some (((((), (), ()), false), d_Plate, d_Held, d_Bad)))))
                 (some (((((), (), ()), false), d_Plate, d_Held, d_Bad))))
                (some (((((), (), ()), false), d_Plate, d_Held, d_Bad)))))
              (cn (decide (x_Kind = (6 : Int)))
               (cn (decide (x_Text.toList = ByteArray.empty.toList))
                (gd (inb x_At d_Bad.length)
                 (cn (getAt false d_Bad x_At.toNat)
                  (gd (inb x_At d_Bad.length)
                   (gd (inb x_At d_Plate.length)
                    (some (((((), (), ()), true), d_Plate.set x_At.toNat ByteArray.empty, d_Held, d_Bad.set x_At.toNat false)))))
                  (some (((((), (), ()), false), d_Plate, d_Held, d_Bad)))))
                (some (((((), (), ()), false), d_Plate, d_Held, d_Bad))))
               (some (((((), (), ()), false), d_Plate, d_Held, d_Bad)))))))
           (cn (decide (x_Kind = (5 : Int)))
            (cn (decide (x_Text.toList = ByteArray.empty.toList))
             (gd (inb x_At d_Bad.length)
              (gd (inb x_At d_Held.length)
               (some (((((), (), ()), true), d_Plate, d_Held.set x_At.toNat ByteArray.empty, d_Bad.set x_At.toNat true)))))
             (cn (decide (x_Kind = (6 : Int)))
              (cn (decide (x_Text.toList = ByteArray.empty.toList))
               (gd (inb x_At d_Bad.length)
                (cn (getAt false d_Bad x_At.toNat)
                 (gd (inb x_At d_Bad.length)
                  (gd (inb x_At d_Plate.length)
                   (some (((((), (), ()), true), d_Plate.set x_At.toNat ByteArray.empty, d_Held, d_Bad.set x_At.toNat false)))))
                 (some (((((), (), ()), false), d_Plate, d_Held, d_Bad)))))
               (some (((((), (), ()), false), d_Plate, d_Held, d_Bad))))
              (some (((((), (), ()), false), d_Plate, d_Held, d_Bad)))))
            (cn (decide (x_Kind = (6 : Int)))
             (cn (decide (x_Text.toList = ByteArray.empty.toList))
              (gd (inb x_At d_Bad.length)
               (cn (getAt false d_Bad x_At.toNat)
                (gd (inb x_At d_Bad.length)
                 (gd (inb x_At d_Plate.length)
                  (some (((((), (), ()), true), d_Plate.set x_At.toNat ByteArray.empty, d_Held, d_Bad.set x_At.toNat false)))))
                (some (((((), (), ()), false), d_Plate, d_Held, d_Bad)))))
              (some (((((), (), ()), false), d_Plate, d_Held, d_Bad))))
             (some (((((), (), ()), false), d_Plate, d_Held, d_Bad)))))))
         (cn (decide (x_Kind = (5 : Int)))
          (cn (decide (x_Text.toList = ByteArray.empty.toList))
           (gd (inb x_At d_Bad.length)
            (gd (inb x_At d_Held.length)
             (some (((((), (), ()), true), d_Plate, d_Held.set x_At.toNat ByteArray.empty, d_Bad.set x_At.toNat true)))))
           (cn (decide (x_Kind = (6 : Int)))
            (cn (decide (x_Text.toList = ByteArray.empty.toList))
             (gd (inb x_At d_Bad.length)
              (cn (getAt false d_Bad x_At.toNat)
               (gd (inb x_At d_Bad.length)
                (gd (inb x_At d_Plate.length)
                 (some (((((), (), ()), true), d_Plate.set x_At.toNat ByteArray.empty, d_Held, d_Bad.set x_At.toNat false)))))
               (some (((((), (), ()), false), d_Plate, d_Held, d_Bad)))))
             (some (((((), (), ()), false), d_Plate, d_Held, d_Bad))))
            (some (((((), (), ()), false), d_Plate, d_Held, d_Bad)))))
          (cn (decide (x_Kind = (6 : Int)))
           (cn (decide (x_Text.toList = ByteArray.empty.toList))
            (gd (inb x_At d_Bad.length)
             (cn (getAt false d_Bad x_At.toNat)
              (gd (inb x_At d_Bad.length)
               (gd (inb x_At d_Plate.length)
                (some (((((), (), ()), true), d_Plate.set x_At.toNat ByteArray.empty, d_Held, d_Bad.set x_At.toNat false)))))
              (some (((((), (), ()), false), d_Plate, d_Held, d_Bad)))))
            (some (((((), (), ()), false), d_Plate, d_Held, d_Bad))))
           (some (((((), (), ()), false), d_Plate, d_Held, d_Bad)))))))
       (cn (decide (x_Kind = (4 : Int)))
        (gd (inb x_At d_Held.length)
         (cn (decide ((getAt ByteArray.empty d_Held x_At.toNat).toList = ByteArray.empty.toList))
          (gd (inb x_At d_Plate.length)
           (cn (!decide ((getAt ByteArray.empty d_Plate x_At.toNat).toList = ByteArray.empty.toList))
            (gd (inb x_At d_Plate.length)
             ((s_l1In.f k (↑x_Text.size : Int) (1 : Int) (↑(getAt ByteArray.empty d_Plate x_At.toNat).size : Int)).bind fun d3 =>
              cn d3
              (gd (inb x_At d_Plate.length)
               ((s_l7Rot.f k (getAt ByteArray.empty d_Plate x_At.toNat) x_Text).bind fun d4 =>
                gd (inb x_At d_Plate.length)
                (some (((((), (), ()), true), d_Plate.set x_At.toNat d4, d_Held, d_Bad)))))
              (cn (decide (x_Kind = (5 : Int)))
               (cn (decide (x_Text.toList = ByteArray.empty.toList))
                (gd (inb x_At d_Bad.length)
                 (gd (inb x_At d_Held.length)
                  (some (((((), (), ()), true), d_Plate, d_Held.set x_At.toNat ByteArray.empty, d_Bad.set x_At.toNat true)))))
                (cn (decide (x_Kind = (6 : Int)))
                 (cn (decide (x_Text.toList = ByteArray.empty.toList))
                  (gd (inb x_At d_Bad.length)
                   (cn (getAt false d_Bad x_At.toNat)
                    (gd (inb x_At d_Bad.length)
                     (gd (inb x_At d_Plate.length)
                      (some (((((), (), ()), true), d_Plate.set x_At.toNat ByteArray.empty, d_Held, d_Bad.set x_At.toNat false)))))
                    (some (((((), (), ()), false), d_Plate, d_Held, d_Bad)))))
                  (some (((((), (), ()), false), d_Plate, d_Held, d_Bad))))
                 (some (((((), (), ()), false), d_Plate, d_Held, d_Bad)))))
               (cn (decide (x_Kind = (6 : Int)))
                (cn (decide (x_Text.toList = ByteArray.empty.toList))
                 (gd (inb x_At d_Bad.length)
                  (cn (getAt false d_Bad x_At.toNat)
                   (gd (inb x_At d_Bad.length)
                    (gd (inb x_At d_Plate.length)
                     (some (((((), (), ()), true), d_Plate.set x_At.toNat ByteArray.empty, d_Held, d_Bad.set x_At.toNat false)))))
                   (some (((((), (), ()), false), d_Plate, d_Held, d_Bad)))))
                 (some (((((), (), ()), false), d_Plate, d_Held, d_Bad))))
                (some (((((), (), ()), false), d_Plate, d_Held, d_Bad)))))))
            (cn (decide (x_Kind = (5 : Int)))
             (cn (decide (x_Text.toList = ByteArray.empty.toList))
              (gd (inb x_At d_Bad.length)
               (gd (inb x_At d_Held.length)
                (some (((((), (), ()), true), d_Plate, d_Held.set x_At.toNat ByteArray.empty, d_Bad.set x_At.toNat true)))))
              (cn (decide (x_Kind = (6 : Int)))
               (cn (decide (x_Text.toList = ByteArray.empty.toList))
                (gd (inb x_At d_Bad.length)
                 (cn (getAt false d_Bad x_At.toNat)
                  (gd (inb x_At d_Bad.length)
                   (gd (inb x_At d_Plate.length)
                    (some (((((), (), ()), true), d_Plate.set x_At.toNat ByteArray.empty, d_Held, d_Bad.set x_At.toNat false)))))
                  (some (((((), (), ()), false), d_Plate, d_Held, d_Bad)))))
                (some (((((), (), ()), false), d_Plate, d_Held, d_Bad))))
               (some (((((), (), ()), false), d_Plate, d_Held, d_Bad)))))
             (cn (decide (x_Kind = (6 : Int)))
              (cn (decide (x_Text.toList = ByteArray.empty.toList))
               (gd (inb x_At d_Bad.length)
                (cn (getAt false d_Bad x_At.toNat)
                 (gd (inb x_At d_Bad.length)
                  (gd (inb x_At d_Plate.length)
                   (some (((((), (), ()), true), d_Plate.set x_At.toNat ByteArray.empty, d_Held, d_Bad.set x_At.toNat false)))))
                 (some (((((), (), ()), false), d_Plate, d_Held, d_Bad)))))
               (some (((((), (), ()), false), d_Plate, d_Held, d_Bad))))
              (some (((((), (), ()), false), d_Plate, d_Held, d_Bad)))))))
          (cn (decide (x_Kind = (5 : Int)))
           (cn (decide (x_Text.toList = ByteArray.empty.toList))
            (gd (inb x_At d_Bad.length)
             (gd (inb x_At d_Held.length)
              (some (((((), (), ()), true), d_Plate, d_Held.set x_At.toNat ByteArray.empty, d_Bad.set x_At.toNat true)))))
            (cn (decide (x_Kind = (6 : Int)))
             (cn (decide (x_Text.toList = ByteArray.empty.toList))
              (gd (inb x_At d_Bad.length)
               (cn (getAt false d_Bad x_At.toNat)
                (gd (inb x_At d_Bad.length)
                 (gd (inb x_At d_Plate.length)
                  (some (((((), (), ()), true), d_Plate.set x_At.toNat ByteArray.empty, d_Held, d_Bad.set x_At.toNat false)))))
                (some (((((), (), ()), false), d_Plate, d_Held, d_Bad)))))
              (some (((((), (), ()), false), d_Plate, d_Held, d_Bad))))
             (some (((((), (), ()), false), d_Plate, d_Held, d_Bad)))))
           (cn (decide (x_Kind = (6 : Int)))
            (cn (decide (x_Text.toList = ByteArray.empty.toList))
             (gd (inb x_At d_Bad.length)
              (cn (getAt false d_Bad x_At.toNat)
               (gd (inb x_At d_Bad.length)
                (gd (inb x_At d_Plate.length)
                 (some (((((), (), ()), true), d_Plate.set x_At.toNat ByteArray.empty, d_Held, d_Bad.set x_At.toNat false)))))
               (some (((((), (), ()), false), d_Plate, d_Held, d_Bad)))))
             (some (((((), (), ()), false), d_Plate, d_Held, d_Bad))))
            (some (((((), (), ()), false), d_Plate, d_Held, d_Bad)))))))
        (cn (decide (x_Kind = (5 : Int)))
         (cn (decide (x_Text.toList = ByteArray.empty.toList))
          (gd (inb x_At d_Bad.length)
           (gd (inb x_At d_Held.length)
            (some (((((), (), ()), true), d_Plate, d_Held.set x_At.toNat ByteArray.empty, d_Bad.set x_At.toNat true)))))
          (cn (decide (x_Kind = (6 : Int)))
           (cn (decide (x_Text.toList = ByteArray.empty.toList))
            (gd (inb x_At d_Bad.length)
             (cn (getAt false d_Bad x_At.toNat)
              (gd (inb x_At d_Bad.length)
               (gd (inb x_At d_Plate.length)
                (some (((((), (), ()), true), d_Plate.set x_At.toNat ByteArray.empty, d_Held, d_Bad.set x_At.toNat false)))))
              (some (((((), (), ()), false), d_Plate, d_Held, d_Bad)))))
            (some (((((), (), ()), false), d_Plate, d_Held, d_Bad))))
           (some (((((), (), ()), false), d_Plate, d_Held, d_Bad)))))
         (cn (decide (x_Kind = (6 : Int)))
          (cn (decide (x_Text.toList = ByteArray.empty.toList))
           (gd (inb x_At d_Bad.length)
            (cn (getAt false d_Bad x_At.toNat)
             (gd (inb x_At d_Bad.length)
              (gd (inb x_At d_Plate.length)
               (some (((((), (), ()), true), d_Plate.set x_At.toNat ByteArray.empty, d_Held, d_Bad.set x_At.toNat false)))))
             (some (((((), (), ()), false), d_Plate, d_Held, d_Bad)))))
           (some (((((), (), ()), false), d_Plate, d_Held, d_Bad))))
          (some (((((), (), ()), false), d_Plate, d_Held, d_Bad))))))))
     (cn (decide (x_Kind = (4 : Int)))
      (gd (inb x_At d_Held.length)
       (cn (decide ((getAt ByteArray.empty d_Held x_At.toNat).toList = ByteArray.empty.toList))
        (gd (inb x_At d_Plate.length)
         (cn (!decide ((getAt ByteArray.empty d_Plate x_At.toNat).toList = ByteArray.empty.toList))
          (gd (inb x_At d_Plate.length)
           ((s_l1In.f k (↑x_Text.size : Int) (1 : Int) (↑(getAt ByteArray.empty d_Plate x_At.toNat).size : Int)).bind fun d1 =>
            cn d1
            (gd (inb x_At d_Plate.length)
             ((s_l7Rot.f k (getAt ByteArray.empty d_Plate x_At.toNat) x_Text).bind fun d2 =>
              gd (inb x_At d_Plate.length)
              (some (((((), (), ()), true), d_Plate.set x_At.toNat d2, d_Held, d_Bad)))))
            (cn (decide (x_Kind = (5 : Int)))
             (cn (decide (x_Text.toList = ByteArray.empty.toList))
              (gd (inb x_At d_Bad.length)
               (gd (inb x_At d_Held.length)
                (some (((((), (), ()), true), d_Plate, d_Held.set x_At.toNat ByteArray.empty, d_Bad.set x_At.toNat true)))))
              (cn (decide (x_Kind = (6 : Int)))
               (cn (decide (x_Text.toList = ByteArray.empty.toList))
                (gd (inb x_At d_Bad.length)
                 (cn (getAt false d_Bad x_At.toNat)
                  (gd (inb x_At d_Bad.length)
                   (gd (inb x_At d_Plate.length)
                    (some (((((), (), ()), true), d_Plate.set x_At.toNat ByteArray.empty, d_Held, d_Bad.set x_At.toNat false)))))
                  (some (((((), (), ()), false), d_Plate, d_Held, d_Bad)))))
                (some (((((), (), ()), false), d_Plate, d_Held, d_Bad))))
               (some (((((), (), ()), false), d_Plate, d_Held, d_Bad)))))
             (cn (decide (x_Kind = (6 : Int)))
              (cn (decide (x_Text.toList = ByteArray.empty.toList))
               (gd (inb x_At d_Bad.length)
                (cn (getAt false d_Bad x_At.toNat)
                 (gd (inb x_At d_Bad.length)
                  (gd (inb x_At d_Plate.length)
                   (some (((((), (), ()), true), d_Plate.set x_At.toNat ByteArray.empty, d_Held, d_Bad.set x_At.toNat false)))))
                 (some (((((), (), ()), false), d_Plate, d_Held, d_Bad)))))
               (some (((((), (), ()), false), d_Plate, d_Held, d_Bad))))
              (some (((((), (), ()), false), d_Plate, d_Held, d_Bad)))))))
          (cn (decide (x_Kind = (5 : Int)))
           (cn (decide (x_Text.toList = ByteArray.empty.toList))
            (gd (inb x_At d_Bad.length)
             (gd (inb x_At d_Held.length)
              (some (((((), (), ()), true), d_Plate, d_Held.set x_At.toNat ByteArray.empty, d_Bad.set x_At.toNat true)))))
            (cn (decide (x_Kind = (6 : Int)))
             (cn (decide (x_Text.toList = ByteArray.empty.toList))
              (gd (inb x_At d_Bad.length)
               (cn (getAt false d_Bad x_At.toNat)
                (gd (inb x_At d_Bad.length)
                 (gd (inb x_At d_Plate.length)
                  (some (((((), (), ()), true), d_Plate.set x_At.toNat ByteArray.empty, d_Held, d_Bad.set x_At.toNat false)))))
                (some (((((), (), ()), false), d_Plate, d_Held, d_Bad)))))
              (some (((((), (), ()), false), d_Plate, d_Held, d_Bad))))
             (some (((((), (), ()), false), d_Plate, d_Held, d_Bad)))))
           (cn (decide (x_Kind = (6 : Int)))
            (cn (decide (x_Text.toList = ByteArray.empty.toList))
             (gd (inb x_At d_Bad.length)
              (cn (getAt false d_Bad x_At.toNat)
               (gd (inb x_At d_Bad.length)
                (gd (inb x_At d_Plate.length)
                 (some (((((), (), ()), true), d_Plate.set x_At.toNat ByteArray.empty, d_Held, d_Bad.set x_At.toNat false)))))
               (some (((((), (), ()), false), d_Plate, d_Held, d_Bad)))))
             (some (((((), (), ()), false), d_Plate, d_Held, d_Bad))))
            (some (((((), (), ()), false), d_Plate, d_Held, d_Bad)))))))
        (cn (decide (x_Kind = (5 : Int)))
         (cn (decide (x_Text.toList = ByteArray.empty.toList))
          (gd (inb x_At d_Bad.length)
           (gd (inb x_At d_Held.length)
            (some (((((), (), ()), true), d_Plate, d_Held.set x_At.toNat ByteArray.empty, d_Bad.set x_At.toNat true)))))
          (cn (decide (x_Kind = (6 : Int)))
           (cn (decide (x_Text.toList = ByteArray.empty.toList))
            (gd (inb x_At d_Bad.length)
             (cn (getAt false d_Bad x_At.toNat)
              (gd (inb x_At d_Bad.length)
               (gd (inb x_At d_Plate.length)
                (some (((((), (), ()), true), d_Plate.set x_At.toNat ByteArray.empty, d_Held, d_Bad.set x_At.toNat false)))))
              (some (((((), (), ()), false), d_Plate, d_Held, d_Bad)))))
            (some (((((), (), ()), false), d_Plate, d_Held, d_Bad))))
           (some (((((), (), ()), false), d_Plate, d_Held, d_Bad)))))
         (cn (decide (x_Kind = (6 : Int)))
          (cn (decide (x_Text.toList = ByteArray.empty.toList))
           (gd (inb x_At d_Bad.length)
            (cn (getAt false d_Bad x_At.toNat)
             (gd (inb x_At d_Bad.length)
              (gd (inb x_At d_Plate.length)
               (some (((((), (), ()), true), d_Plate.set x_At.toNat ByteArray.empty, d_Held, d_Bad.set x_At.toNat false)))))
             (some (((((), (), ()), false), d_Plate, d_Held, d_Bad)))))
           (some (((((), (), ()), false), d_Plate, d_Held, d_Bad))))
          (some (((((), (), ()), false), d_Plate, d_Held, d_Bad)))))))
      (cn (decide (x_Kind = (5 : Int)))
       (cn (decide (x_Text.toList = ByteArray.empty.toList))
        (gd (inb x_At d_Bad.length)
         (gd (inb x_At d_Held.length)
          (some (((((), (), ()), true), d_Plate, d_Held.set x_At.toNat ByteArray.empty, d_Bad.set x_At.toNat true)))))
        (cn (decide (x_Kind = (6 : Int)))
         (cn (decide (x_Text.toList = ByteArray.empty.toList))
          (gd (inb x_At d_Bad.length)
           (cn (getAt false d_Bad x_At.toNat)
            (gd (inb x_At d_Bad.length)
             (gd (inb x_At d_Plate.length)
              (some (((((), (), ()), true), d_Plate.set x_At.toNat ByteArray.empty, d_Held, d_Bad.set x_At.toNat false)))))
            (some (((((), (), ()), false), d_Plate, d_Held, d_Bad)))))
          (some (((((), (), ()), false), d_Plate, d_Held, d_Bad))))
         (some (((((), (), ()), false), d_Plate, d_Held, d_Bad)))))
       (cn (decide (x_Kind = (6 : Int)))
        (cn (decide (x_Text.toList = ByteArray.empty.toList))
         (gd (inb x_At d_Bad.length)
          (cn (getAt false d_Bad x_At.toNat)
           (gd (inb x_At d_Bad.length)
            (gd (inb x_At d_Plate.length)
             (some (((((), (), ()), true), d_Plate.set x_At.toNat ByteArray.empty, d_Held, d_Bad.set x_At.toNat false)))))
           (some (((((), (), ()), false), d_Plate, d_Held, d_Bad)))))
         (some (((((), (), ()), false), d_Plate, d_Held, d_Bad))))
        (some (((((), (), ()), false), d_Plate, d_Held, d_Bad)))))))))) := (opq_eq _).trans (by kernel_rfl)
abbrev s_l15Write.s : Sig := ⟨62, [.agg 3, .one, .one, .one, .one], [.chg, .chg, .chg, .val, .val, .val, .val], [.one (.row 9 .str), .one (.row 9 .str), .one (.row 4 .bool), .one (.int .i64), .one (.int .i64), .one (.int .i64), .one .str], [.agg [.arg 1, .arg 2, .arg 3]], [.rows 9 .str, .rows 9 .str, .rows 4 .bool], []⟩
noncomputable def s_l15Write.C (k : Nat) : List (Nat × Ctr) := [(100, s_l7Step.s.ctr (fun x => s_l7Step.f k x.1 x.2.1 x.2.2.1 x.2.2.2.1 x.2.2.2.2.1 x.2.2.2.2.2.1 x.2.2.2.2.2.2)), (101, s_l6Frame.s.ctr (fun x => s_l6Frame.f k x.1 x.2.1 x.2.2.1 x.2.2.2))]
noncomputable def s_l15Write.f (k : Nat) (d_Plate : List ByteArray) (d_Held : List ByteArray) (d_Bad : List Bool) (kind : Int) (at_ : Int) (epoch : Int) (body : ByteArray) : Option ((Unit × Unit × Unit) × List ByteArray × List ByteArray × List Bool) := opq (s_l15Write.s.run Try.prog (s_l15Write.C k) k (d_Plate, d_Held, d_Bad, kind, at_, epoch, body))
theorem s_l15Write.ok (k : Nat) : CtrOk Try.prog 62 (s_l15Write.s.ctr (fun x => s_l15Write.f k x.1 x.2.1 x.2.2.1 x.2.2.2.1 x.2.2.2.2.1 x.2.2.2.2.2.1 x.2.2.2.2.2.2)) := sig_ok s_l15Write.s (.cons (s_l7Step.ok k) (.cons (s_l6Frame.ok k) .nil)) (by kernel_rfl) fun _ => opq_eq _
theorem s_l15Write.f_eq (k : Nat) (d_Plate : List ByteArray) (d_Held : List ByteArray) (d_Bad : List Bool) (kind : Int) (at_ : Int) (epoch : Int) (body : ByteArray) : s_l15Write.f k d_Plate d_Held d_Bad kind at_ epoch body =
 both
 ((s_l6Frame.f k kind at_ epoch body).bind fun d0 =>
  both
  ((s_l7Step.f k d_Plate d_Held d_Bad (1 : Int) at_ d0 []).bind fun d1 =>
   both
   (some ((((), (), ()), d1.snd.fst, d1.snd.snd.fst, d1.snd.snd.snd)))
   (both
    (some ((((), (), ()), d1.snd.fst, d1.snd.snd.fst, d1.snd.snd.snd)))
    (some ((((), (), ()), d1.snd.fst, d1.snd.snd.fst, d1.snd.snd.snd)))))
  ((s_l7Step.f k d_Plate d_Held d_Bad (1 : Int) at_ d0 []).bind fun d2 =>
   both
   (some ((((), (), ()), d2.snd.fst, d2.snd.snd.fst, d2.snd.snd.snd)))
   (some ((((), (), ()), d2.snd.fst, d2.snd.snd.fst, d2.snd.snd.snd)))))
 ((s_l6Frame.f k kind at_ epoch body).bind fun d3 =>
  (s_l7Step.f k d_Plate d_Held d_Bad (1 : Int) at_ d3 []).bind fun d4 =>
  both
  (some ((((), (), ()), d4.snd.fst, d4.snd.snd.fst, d4.snd.snd.snd)))
  (some ((((), (), ()), d4.snd.fst, d4.snd.snd.fst, d4.snd.snd.snd)))) := (opq_eq _).trans (by kernel_rfl)
abbrev s_l15Put.s : Sig := ⟨63, [.agg 3, .one, .one], [.chg, .chg, .chg, .val, .val], [.one (.row 9 .str), .one (.row 9 .str), .one (.row 4 .bool), .one (.int .i64), .one (.row 3 (.int .i64))], [.agg [.arg 1, .arg 2, .arg 3]], [.rows 9 .str, .rows 9 .str, .rows 4 .bool], [(0, [(1,false),(3,false),(6,false),(7,false),(13,true),(14,false),(15,false)])]⟩
noncomputable def s_l15Put.C (k : Nat) : List (Nat × Ctr) := [(55, s_l15Bytes.s.ctr (fun x => s_l15Bytes.f k x)), (62, s_l15Write.s.ctr (fun x => s_l15Write.f k x.1 x.2.1 x.2.2.1 x.2.2.2.1 x.2.2.2.2.1 x.2.2.2.2.2.1 x.2.2.2.2.2.2)), (102, s_l15Half.s.ctr (fun x => s_l15Half.f k x))]
noncomputable def s_l15Put.f (k : Nat) (d_Plate : List ByteArray) (d_Held : List ByteArray) (d_Bad : List Bool) (epoch : Int) (values : List Int) : Option ((Unit × Unit × Unit) × List ByteArray × List ByteArray × List Bool) := opq (s_l15Put.s.run Try.prog (s_l15Put.C k) k (d_Plate, d_Held, d_Bad, epoch, values))
theorem s_l15Put.ok (k : Nat) : CtrOk Try.prog 63 (s_l15Put.s.ctr (fun x => s_l15Put.f k x.1 x.2.1 x.2.2.1 x.2.2.2.1 x.2.2.2.2)) := sig_ok s_l15Put.s (.cons (s_l15Bytes.ok k) (.cons (s_l15Write.ok k) (.cons (s_l15Half.ok k) .nil))) (by kernel_rfl) fun _ => opq_eq _
noncomputable def s_l15Put.l0 (k : Nat) (m : Nat) (epoch1 : Int) (at7 : Int) (t14 : Int) (t15 : Int) (h1 : List ByteArray) (h2 : List ByteArray) (h3 : List Bool) (h6 : List ByteArray) : Option ((Unit × Unit × Unit) × List ByteArray × List ByteArray × List Bool) := s_l15Put.s.head Try.prog (s_l15Put.C k) k 4 0 [] m [(1, AV.int IntKind.i64 epoch1), (3, AV.ptr 4 0 0), (6, AV.ptr 5 0 0), (7, AV.int IntKind.i64 at7), (13, AV.ref 6), (14, AV.int IntKind.i64 t14), (15, AV.int IntKind.i64 t15)] [Root.dead, Root.rows 9 Kind.str h1, Root.rows 9 Kind.str h2, Root.rows 4 Kind.bool h3, Root.box 38 [AV.ref 1, AV.ref 2, AV.ref 3], Root.box 38 [AV.nil 9 Kind.str, AV.nil 9 Kind.str, AV.nil 4 Kind.bool], Root.rows 9 Kind.str h6]
theorem s_l15Put.l0_z (k : Nat) (epoch1 : Int) (at7 : Int) (t14 : Int) (t15 : Int) (h1 : List ByteArray) (h2 : List ByteArray) (h3 : List Bool) (h6 : List ByteArray) : s_l15Put.l0 k 0 epoch1 at7 t14 t15 h1 h2 h3 h6 = none := by kernel_rfl
theorem s_l15Put.l0_s (k : Nat) (m : Nat) (epoch1 : Int) (at7 : Int) (t14 : Int) (t15 : Int) (h1 : List ByteArray) (h2 : List ByteArray) (h3 : List Bool) (h6 : List ByteArray) : s_l15Put.l0 k (m + 1) epoch1 at7 t14 t15 h1 h2 h3 h6 =
 cn (decide (t15 < t14))
 (gd (inb t15 h6.length)
  ((s_l15Write.f k h1 h2 h3 (3 : Int) (IntKind.i64.wrap (at7 + t15)) epoch1 (getAt ByteArray.empty h6 t15.toNat)).bind fun d2 =>
   s_l15Put.l0 k m epoch1 at7 t14 (IntKind.i64.wrap (t15 + (1 : Int))) d2.snd.fst d2.snd.snd.fst d2.snd.snd.snd h6))
 (some ((((), (), ()), h1, h2, h3))) := by kernel_rfl
theorem s_l15Put.f_eq (k : Nat) (d_Plate : List ByteArray) (d_Held : List ByteArray) (d_Bad : List Bool) (epoch : Int) (values : List Int) : s_l15Put.f k d_Plate d_Held d_Bad epoch values =
 (s_l15Half.f k epoch).bind fun d0 =>
 (s_l15Bytes.f k values).bind fun d1 =>
 s_l15Put.l0 k k epoch d0 ((↑(List.length d1) : Int)) ((0 : Int)) d_Plate d_Held d_Bad d1 := (opq_eq _).trans (by kernel_rfl)
abbrev s_NewJournal.s : Sig := ⟨23, [], [], [], [.agg [.own 9 .str, .own 9 .str, .own 4 .bool, .int .i64, .int .i64, .own 3 (.int .i64), .own 3 (.int .i64)]], [], []⟩
noncomputable def s_NewJournal.C (k : Nat) : List (Nat × Ctr) := [(61, s_NewDisk.s.ctr (fun x => s_NewDisk.f k x)), (62, s_l15Write.s.ctr (fun x => s_l15Write.f k x.1 x.2.1 x.2.2.1 x.2.2.2.1 x.2.2.2.2.1 x.2.2.2.2.2.1 x.2.2.2.2.2.2)), (63, s_l15Put.s.ctr (fun x => s_l15Put.f k x.1 x.2.1 x.2.2.1 x.2.2.2.1 x.2.2.2.2)), (64, s_l7Crash.s.ctr (fun x => s_l7Crash.f k x.1 x.2.1 x.2.2.1 x.2.2.2)), (65, s_l7Held.s.ctr (fun x => s_l7Held.f k x.1 x.2.1 x.2.2))]
noncomputable def s_NewJournal.f (k : Nat)  : Option (List ByteArray × List ByteArray × List Bool × Int × Int × List Int × List Int) := opq (s_NewJournal.s.run Try.prog (s_NewJournal.C k) k ())
theorem s_NewJournal.ok (k : Nat) : CtrOk Try.prog 23 (s_NewJournal.s.ctr (fun _ => s_NewJournal.f k)) := sig_ok s_NewJournal.s (.cons (s_NewDisk.ok k) (.cons (s_l15Write.ok k) (.cons (s_l15Put.ok k) (.cons (s_l7Crash.ok k) (.cons (s_l7Held.ok k) .nil))))) (by kernel_rfl) fun _ => opq_eq _
theorem s_NewJournal.f_eq (k : Nat) : s_NewJournal.f k =
 (s_NewDisk.f k (5 : Int)).bind fun d0 =>
 (s_l15Put.f k d0.fst.fst d0.fst.snd.fst d0.fst.snd.snd (0 : Int) (List.replicate (6 : Nat) (0 : Int))).bind fun d1 =>
 (s_l15Write.f k d1.snd.fst d1.snd.snd.fst d1.snd.snd.snd (4 : Int) (0 : Int) (0 : Int) ByteArray.empty).bind fun d2 =>
 both
 ((s_l7Held.f k d2.snd.fst d2.snd.snd.fst d2.snd.snd.snd).bind fun d3 =>
  both
  ((s_l7Crash.f k d2.snd.fst d2.snd.snd.fst d2.snd.snd.snd d3).bind fun d4 =>
   some ((d4.snd.fst, d4.snd.snd.fst, d4.snd.snd.snd, (0 : Int), (0 : Int), List.replicate (6 : Nat) (0 : Int), [])))
  ((s_l7Crash.f k d2.snd.fst d2.snd.snd.fst d2.snd.snd.snd d3).bind fun d5 =>
   some ((d5.snd.fst, d5.snd.snd.fst, d5.snd.snd.snd, (0 : Int), (0 : Int), List.replicate (6 : Nat) (0 : Int), []))))
 ((s_l7Held.f k d2.snd.fst d2.snd.snd.fst d2.snd.snd.snd).bind fun d6 =>
  (s_l7Crash.f k d2.snd.fst d2.snd.snd.fst d2.snd.snd.snd d6).bind fun d7 =>
  some ((d7.snd.fst, d7.snd.snd.fst, d7.snd.snd.snd, (0 : Int), (0 : Int), List.replicate (6 : Nat) (0 : Int), []))) := (opq_eq _).trans (by kernel_rfl)
abbrev i_within.s : Sig := ⟨83, [], [.val, .val, .val], [.one (.int .i64), .one (.int .i64), .one (.int .i64)], [.one .bool], [], []⟩
noncomputable def i_within.C (k : Nat) : List (Nat × Ctr) := []
noncomputable def i_within.f (k : Nat) (n : Int) (low : Int) (high : Int) : Option Bool := opq (i_within.s.run Try.prog (i_within.C k) k (n, low, high))
theorem i_within.ok (k : Nat) : CtrOk Try.prog 83 (i_within.s.ctr (fun x => i_within.f k x.1 x.2.1 x.2.2)) := sig_ok i_within.s .nil (by kernel_rfl) fun _ => opq_eq _
theorem i_within.f_eq (k : Nat) (n : Int) (low : Int) (high : Int) : i_within.f k n low high =
 cn (decide (low ≤ n))
 (some (decide (n ≤ high)))
 (some false) := (opq_eq _).trans (by kernel_rfl)
abbrev i_NewDisk.s : Sig := ⟨66, [], [.val], [.one (.int .i64)], [.agg [.own 9 .str, .own 9 .str, .own 4 .bool], .one .bool], [], []⟩
noncomputable def i_NewDisk.C (k : Nat) : List (Nat × Ctr) := [(83, i_within.s.ctr (fun x => i_within.f k x.1 x.2.1 x.2.2))]
noncomputable def i_NewDisk.f (k : Nat) (sectors : Int) : Option ((List ByteArray × List ByteArray × List Bool) × Bool) := opq (i_NewDisk.s.run Try.prog (i_NewDisk.C k) k sectors)
theorem i_NewDisk.ok (k : Nat) : CtrOk Try.prog 66 (i_NewDisk.s.ctr (fun x => i_NewDisk.f k x)) := sig_ok i_NewDisk.s (.cons (i_within.ok k) .nil) (by kernel_rfl) fun _ => opq_eq _
theorem i_NewDisk.f_eq (k : Nat) (sectors : Int) : i_NewDisk.f k sectors =
 (i_within.f k sectors (1 : Int) (24 : Int)).bind fun d0 =>
 cn (!d0)
 (some ((([], [], []), false)))
 (both
  (gd (mkOk sectors sectors (Try.prog.bytesOf (9 : Nat)))
   (both
    (gd (mkOk sectors sectors (Try.prog.bytesOf (9 : Nat)))
     (gd (mkOk sectors sectors (Try.prog.bytesOf (4 : Nat)))
      (some (((List.replicate sectors.toNat ByteArray.empty, List.replicate sectors.toNat ByteArray.empty, List.replicate sectors.toNat false), true)))))
    (gd (mkOk sectors sectors (Try.prog.bytesOf (4 : Nat)))
     (gd (mkOk sectors sectors (Try.prog.bytesOf (9 : Nat)))
      (some (((List.replicate sectors.toNat ByteArray.empty, List.replicate sectors.toNat ByteArray.empty, List.replicate sectors.toNat false), true)))))))
  (both
   (gd (mkOk sectors sectors (Try.prog.bytesOf (9 : Nat)))
    (both
     (gd (mkOk sectors sectors (Try.prog.bytesOf (9 : Nat)))
      (gd (mkOk sectors sectors (Try.prog.bytesOf (4 : Nat)))
       (some (((List.replicate sectors.toNat ByteArray.empty, List.replicate sectors.toNat ByteArray.empty, List.replicate sectors.toNat false), true)))))
     (gd (mkOk sectors sectors (Try.prog.bytesOf (4 : Nat)))
      (gd (mkOk sectors sectors (Try.prog.bytesOf (9 : Nat)))
       (some (((List.replicate sectors.toNat ByteArray.empty, List.replicate sectors.toNat ByteArray.empty, List.replicate sectors.toNat false), true)))))))
   (gd (mkOk sectors sectors (Try.prog.bytesOf (4 : Nat)))
    (both
     (gd (mkOk sectors sectors (Try.prog.bytesOf (9 : Nat)))
      (gd (mkOk sectors sectors (Try.prog.bytesOf (9 : Nat)))
       (some (((List.replicate sectors.toNat ByteArray.empty, List.replicate sectors.toNat ByteArray.empty, List.replicate sectors.toNat false), true)))))
     (gd (mkOk sectors sectors (Try.prog.bytesOf (9 : Nat)))
      (gd (mkOk sectors sectors (Try.prog.bytesOf (9 : Nat)))
       (some (((List.replicate sectors.toNat ByteArray.empty, List.replicate sectors.toNat ByteArray.empty, List.replicate sectors.toNat false), true))))))))) := (opq_eq _).trans (by kernel_rfl)
abbrev i_halfOf.s : Sig := ⟨77, [], [.val], [.one (.int .i64)], [.one (.int .i64)], [], []⟩
noncomputable def i_halfOf.C (k : Nat) : List (Nat × Ctr) := []
noncomputable def i_halfOf.f (k : Nat) (epoch : Int) : Option Int := opq (i_halfOf.s.run Try.prog (i_halfOf.C k) k epoch)
theorem i_halfOf.ok (k : Nat) : CtrOk Try.prog 77 (i_halfOf.s.ctr (fun x => i_halfOf.f k x)) := sig_ok i_halfOf.s .nil (by kernel_rfl) fun _ => opq_eq _
theorem i_halfOf.f_eq (k : Nat) (epoch : Int) : i_halfOf.f k epoch =
 some (IntKind.i64.wrap ((1 : Int) + IntKind.i64.wrap ((2 : Int) * epoch.tmod (2 : Int)))) := (opq_eq _).trans (by kernel_rfl)
abbrev i_stateBytes.s : Sig := ⟨57, [], [.val], [.one (.row 3 (.int .i64))], [.one (.own 9 .str)], [], [(0, [(3,true),(7,true),(8,false),(9,false)])]⟩
noncomputable def i_stateBytes.C (k : Nat) : List (Nat × Ctr) := []
noncomputable def i_stateBytes.f (k : Nat) (values : List Int) : Option (List ByteArray) := opq (i_stateBytes.s.run Try.prog (i_stateBytes.C k) k values)
theorem i_stateBytes.ok (k : Nat) : CtrOk Try.prog 57 (i_stateBytes.s.ctr (fun x => i_stateBytes.f k x)) := sig_ok i_stateBytes.s .nil (by kernel_rfl) fun _ => opq_eq _
noncomputable def i_stateBytes.l0 (k : Nat) (m : Nat) (t7 : List Int) (t8 : Int) (t9 : Int) (h1 : List Int) : Option (List ByteArray) := i_stateBytes.s.head Try.prog (i_stateBytes.C k) k 1 0 [] m [(3, AV.ref 1), (7, AV.row 3 (Kind.int IntKind.i64) t7), (8, AV.int IntKind.i64 t8), (9, AV.int IntKind.i64 t9)] [Root.dead, Root.rows 5 (Kind.int IntKind.u8) h1]
theorem i_stateBytes.l0_z (k : Nat) (t7 : List Int) (t8 : Int) (t9 : Int) (h1 : List Int) : i_stateBytes.l0 k 0 t7 t8 t9 h1 = none := by kernel_rfl
theorem i_stateBytes.l0_s (k : Nat) (m : Nat) (t7 : List Int) (t8 : Int) (t9 : Int) (h1 : List Int) : i_stateBytes.l0 k (m + 1) t7 t8 t9 h1 =
 cn (decide (t9 < t8))
 (gd (inb t9 t7.length)
  (gd (appOk (h1.length + [IntKind.u8.wrap ((getAt (0 : Int) t7 t9.toNat).fdiv ((2 : Int) ^ (8 : Nat))), IntKind.u8.wrap (getAt (0 : Int) t7 t9.toNat)].length) (Try.prog.bytesOf (5 : Nat)))
   (i_stateBytes.l0 k m t7 t8 (IntKind.i64.wrap (t9 + (1 : Int))) (h1 ++ [IntKind.u8.wrap ((getAt (0 : Int) t7 t9.toNat).fdiv ((2 : Int) ^ (8 : Nat))), IntKind.u8.wrap (getAt (0 : Int) t7 t9.toNat)]))))
 (gd (true && decide ((6 : Int) ≤ (↑h1.length : Int)))
  (gd (true && decide ((6 : Int) ≤ (↑h1.length : Int)))
   (both
    (some ([strOfNums (List.take (6 : Nat) (List.drop (0 : Nat) h1)), strOfNums (List.take (h1.length - (6 : Nat)) (List.drop (6 : Nat) h1))]))
    (some ([strOfNums (List.take (6 : Nat) (List.drop (0 : Nat) h1)), strOfNums (List.take (h1.length - (6 : Nat)) (List.drop (6 : Nat) h1))]))))) := by kernel_rfl
theorem i_stateBytes.f_eq (k : Nat) (values : List Int) : i_stateBytes.f k values =
 i_stateBytes.l0 k k values ((↑values.length : Int)) ((0 : Int)) ([]) := (opq_eq _).trans (by kernel_rfl)
abbrev i_turned.s : Sig := ⟨136, [], [.val], [.one (.int .i64)], [.one (.int .i64)], [], []⟩
noncomputable def i_turned.C (k : Nat) : List (Nat × Ctr) := []
noncomputable def i_turned.f (k : Nat) (sum : Int) : Option Int := opq (i_turned.s.run Try.prog (i_turned.C k) k sum)
theorem i_turned.ok (k : Nat) : CtrOk Try.prog 136 (i_turned.s.ctr (fun x => i_turned.f k x)) := sig_ok i_turned.s .nil (by kernel_rfl) fun _ => opq_eq _
theorem i_turned.f_eq (k : Nat) (sum : Int) : i_turned.f k sum =
 some (IntKind.i64.wrap (↑(BitVec.ofInt (64 : Nat) sum ^^^ BitVec.ofInt (64 : Nat) (4294967295 : Int)).toNat : Int)) := (opq_eq _).trans (by kernel_rfl)
abbrev i_shifted.s : Sig := ⟨137, [], [.val], [.one (.int .i64)], [.one (.int .i64)], [], [(0, [(0,false),(4,false)])]⟩
noncomputable def i_shifted.C (k : Nat) : List (Nat × Ctr) := []
noncomputable def i_shifted.f (k : Nat) (sum : Int) : Option Int := opq (i_shifted.s.run Try.prog (i_shifted.C k) k sum)
theorem i_shifted.ok (k : Nat) : CtrOk Try.prog 137 (i_shifted.s.ctr (fun x => i_shifted.f k x)) := sig_ok i_shifted.s .nil (by kernel_rfl) fun _ => opq_eq _
noncomputable def i_shifted.l0 (k : Nat) (m : Nat) (sum0 : Int) (t4 : Int) : Option Int := i_shifted.s.head Try.prog (i_shifted.C k) k 1 0 [] m [(0, AV.int IntKind.i64 sum0), (4, AV.int IntKind.i64 t4)] [Root.dead]
theorem i_shifted.l0_z (k : Nat) (sum0 : Int) (t4 : Int) : i_shifted.l0 k 0 sum0 t4 = none := by kernel_rfl
theorem i_shifted.l0_s (k : Nat) (m : Nat) (sum0 : Int) (t4 : Int) : i_shifted.l0 k (m + 1) sum0 t4 =
 cn (decide (t4 < (8 : Int)))
 (cn (decide (IntKind.i64.wrap (↑(BitVec.ofInt (64 : Nat) sum0 &&& BitVec.ofInt (64 : Nat) (1 : Int)).toNat : Int) = (1 : Int)))
  (i_shifted.l0 k m (IntKind.i64.wrap (↑(BitVec.ofInt (64 : Nat) (sum0.fdiv ((2 : Int) ^ (1 : Nat))) ^^^ BitVec.ofInt (64 : Nat) (2197175160 : Int)).toNat : Int)) (IntKind.i64.wrap (t4 + (1 : Int))))
  (i_shifted.l0 k m (sum0.fdiv ((2 : Int) ^ (1 : Nat))) (IntKind.i64.wrap (t4 + (1 : Int)))))
 (some sum0) := by kernel_rfl
theorem i_shifted.f_eq (k : Nat) (sum : Int) : i_shifted.f k sum =
 i_shifted.l0 k k sum ((0 : Int)) := (opq_eq _).trans (by kernel_rfl)
abbrev i_sumOn.s : Sig := ⟨128, [], [.val, .val], [.one (.int .i64), .one .str], [.one (.int .i64)], [], [(0, [(0,false),(1,false),(9,false),(10,false)])]⟩
noncomputable def i_sumOn.C (k : Nat) : List (Nat × Ctr) := [(136, i_turned.s.ctr (fun x => i_turned.f k x)), (137, i_shifted.s.ctr (fun x => i_shifted.f k x))]
noncomputable def i_sumOn.f (k : Nat) (sum : Int) (s : ByteArray) : Option Int := opq (i_sumOn.s.run Try.prog (i_sumOn.C k) k (sum, s))
theorem i_sumOn.ok (k : Nat) : CtrOk Try.prog 128 (i_sumOn.s.ctr (fun x => i_sumOn.f k x.1 x.2)) := sig_ok i_sumOn.s (.cons (i_turned.ok k) (.cons (i_shifted.ok k) .nil)) (by kernel_rfl) fun _ => opq_eq _
noncomputable def i_sumOn.l0 (k : Nat) (m : Nat) (sum0 : Int) (s1 : ByteArray) (t9 : Int) (t10 : Int) : Option Int := i_sumOn.s.head Try.prog (i_sumOn.C k) k 1 0 [] m [(0, AV.int IntKind.i64 sum0), (1, AV.str s1), (9, AV.int IntKind.i64 t9), (10, AV.int IntKind.i64 t10)] [Root.dead]
theorem i_sumOn.l0_z (k : Nat) (sum0 : Int) (s1 : ByteArray) (t9 : Int) (t10 : Int) : i_sumOn.l0 k 0 sum0 s1 t9 t10 = none := by kernel_rfl
theorem i_sumOn.l0_s (k : Nat) (m : Nat) (sum0 : Int) (s1 : ByteArray) (t9 : Int) (t10 : Int) : i_sumOn.l0 k (m + 1) sum0 s1 t9 t10 =
 cn (decide (t10 < t9))
 (gd (inb t10 s1.size)
  ((i_shifted.f k (IntKind.i64.wrap (↑(BitVec.ofInt (64 : Nat) sum0 ^^^ BitVec.ofInt (64 : Nat) (IntKind.i64.wrap (↑(s1.data.getD t10.toNat (0 : UInt8)).toNat : Int))).toNat : Int))).bind fun d2 =>
   i_sumOn.l0 k m d2 s1 t9 (IntKind.i64.wrap (t10 + (1 : Int)))))
 ((i_turned.f k sum0).bind fun d1 =>
  some d1) := by kernel_rfl
theorem i_sumOn.f_eq (k : Nat) (sum : Int) (s : ByteArray) : i_sumOn.f k sum s =
 (i_turned.f k sum).bind fun d0 =>
 i_sumOn.l0 k k d0 s ((↑s.size : Int)) ((0 : Int)) := (opq_eq _).trans (by kernel_rfl)
abbrev i_frameBytes.s : Sig := ⟨104, [], [.val], [.agg [.int .i64, .int .i64, .int .i64, .str]], [.one .str], [], []⟩
noncomputable def i_frameBytes.C (k : Nat) : List (Nat × Ctr) := [(128, i_sumOn.s.ctr (fun x => i_sumOn.f k x.1 x.2))]
noncomputable def i_frameBytes.f (k : Nat) (f_Kind : Int) (f_At : Int) (f_Epoch : Int) (f_Body : ByteArray) : Option ByteArray := opq (i_frameBytes.s.run Try.prog (i_frameBytes.C k) k (f_Kind, f_At, f_Epoch, f_Body))
theorem i_frameBytes.ok (k : Nat) : CtrOk Try.prog 104 (i_frameBytes.s.ctr (fun x => i_frameBytes.f k x.1 x.2.1 x.2.2.1 x.2.2.2)) := sig_ok i_frameBytes.s (.cons (i_sumOn.ok k) .nil) (by kernel_rfl) fun _ => opq_eq _
theorem i_frameBytes.f_eq (k : Nat) (f_Kind : Int) (f_At : Int) (f_Epoch : Int) (f_Body : ByteArray) : i_frameBytes.f k f_Kind f_At f_Epoch f_Body =
 gd (appOk ([IntKind.u8.wrap f_Kind, IntKind.u8.wrap (f_At.fdiv ((2 : Int) ^ (8 : Nat))), IntKind.u8.wrap f_At, IntKind.u8.wrap (f_Epoch.fdiv ((2 : Int) ^ (8 : Nat))), IntKind.u8.wrap f_Epoch, IntKind.u8.wrap (↑f_Body.size : Int)].length + (bytesL f_Body).length) (Try.prog.bytesOf (5 : Nat)))
 (gd (decide ((0 : Int) ≤ IntKind.i64.wrap (IntKind.i64.wrap ((18 : Int) - (↑f_Body.size : Int)))) && appOk (([IntKind.u8.wrap f_Kind, IntKind.u8.wrap (f_At.fdiv ((2 : Int) ^ (8 : Nat))), IntKind.u8.wrap f_At, IntKind.u8.wrap (f_Epoch.fdiv ((2 : Int) ^ (8 : Nat))), IntKind.u8.wrap f_Epoch, IntKind.u8.wrap (↑f_Body.size : Int)] ++ bytesL f_Body).length + (List.replicate (IntKind.i64.wrap (IntKind.i64.wrap ((18 : Int) - (↑f_Body.size : Int)))).toNat (0 : Int)).length) (Try.prog.bytesOf (5 : Nat)))
  ((i_sumOn.f k (0 : Int) (strOfNums ([IntKind.u8.wrap f_Kind, IntKind.u8.wrap (f_At.fdiv ((2 : Int) ^ (8 : Nat))), IntKind.u8.wrap f_At, IntKind.u8.wrap (f_Epoch.fdiv ((2 : Int) ^ (8 : Nat))), IntKind.u8.wrap f_Epoch, IntKind.u8.wrap (↑f_Body.size : Int)] ++ bytesL f_Body ++ List.replicate (IntKind.i64.wrap (IntKind.i64.wrap ((18 : Int) - (↑f_Body.size : Int)))).toNat (0 : Int)))).bind fun d0 =>
   gd (appOk (([IntKind.u8.wrap f_Kind, IntKind.u8.wrap (f_At.fdiv ((2 : Int) ^ (8 : Nat))), IntKind.u8.wrap f_At, IntKind.u8.wrap (f_Epoch.fdiv ((2 : Int) ^ (8 : Nat))), IntKind.u8.wrap f_Epoch, IntKind.u8.wrap (↑f_Body.size : Int)] ++ bytesL f_Body ++ List.replicate (IntKind.i64.wrap (IntKind.i64.wrap ((18 : Int) - (↑f_Body.size : Int)))).toNat (0 : Int)).length + [IntKind.u8.wrap d0, IntKind.u8.wrap (Int.fdiv d0 ((2 : Int) ^ (8 : Nat))), IntKind.u8.wrap (Int.fdiv d0 ((2 : Int) ^ (16 : Nat))), IntKind.u8.wrap (Int.fdiv d0 ((2 : Int) ^ (24 : Nat)))].length) (Try.prog.bytesOf (5 : Nat)))
   (some (strOfNums ([IntKind.u8.wrap f_Kind, IntKind.u8.wrap (f_At.fdiv ((2 : Int) ^ (8 : Nat))), IntKind.u8.wrap f_At, IntKind.u8.wrap (f_Epoch.fdiv ((2 : Int) ^ (8 : Nat))), IntKind.u8.wrap f_Epoch, IntKind.u8.wrap (↑f_Body.size : Int)] ++ bytesL f_Body ++ List.replicate (IntKind.i64.wrap (IntKind.i64.wrap ((18 : Int) - (↑f_Body.size : Int)))).toNat (0 : Int) ++ [IntKind.u8.wrap d0, IntKind.u8.wrap (Int.fdiv d0 ((2 : Int) ^ (8 : Nat))), IntKind.u8.wrap (Int.fdiv d0 ((2 : Int) ^ (16 : Nat))), IntKind.u8.wrap (Int.fdiv d0 ((2 : Int) ^ (24 : Nat)))]))))) := (opq_eq _).trans (by kernel_rfl)
abbrev i_sectorsOf.s : Sig := ⟨67, [], [.val, .val], [.one (.int .i64), .one (.row 3 (.int .i64))], [.one (.own 9 .str), .one (.int .i64)], [], [(0, [(0,false),(6,false),(7,true),(14,true),(15,false),(16,false)])]⟩
noncomputable def i_sectorsOf.C (k : Nat) : List (Nat × Ctr) := [(57, i_stateBytes.s.ctr (fun x => i_stateBytes.f k x)), (77, i_halfOf.s.ctr (fun x => i_halfOf.f k x)), (104, i_frameBytes.s.ctr (fun x => i_frameBytes.f k x.1 x.2.1 x.2.2.1 x.2.2.2))]
noncomputable def i_sectorsOf.f (k : Nat) (epoch : Int) (values : List Int) : Option (List ByteArray × Int) := opq (i_sectorsOf.s.run Try.prog (i_sectorsOf.C k) k (epoch, values))
theorem i_sectorsOf.ok (k : Nat) : CtrOk Try.prog 67 (i_sectorsOf.s.ctr (fun x => i_sectorsOf.f k x.1 x.2)) := sig_ok i_sectorsOf.s (.cons (i_stateBytes.ok k) (.cons (i_halfOf.ok k) (.cons (i_frameBytes.ok k) .nil))) (by kernel_rfl) fun _ => opq_eq _
noncomputable def i_sectorsOf.l0 (k : Nat) (m : Nat) (epoch0 : Int) (at6 : Int) (t15 : Int) (t16 : Int) (h1 : List ByteArray) (h2 : List ByteArray) : Option (List ByteArray × Int) := i_sectorsOf.s.head Try.prog (i_sectorsOf.C k) k 1 0 [] m [(0, AV.int IntKind.i64 epoch0), (6, AV.int IntKind.i64 at6), (7, AV.ref 1), (14, AV.ref 2), (15, AV.int IntKind.i64 t15), (16, AV.int IntKind.i64 t16)] [Root.dead, Root.rows 9 Kind.str h1, Root.rows 9 Kind.str h2]
theorem i_sectorsOf.l0_z (k : Nat) (epoch0 : Int) (at6 : Int) (t15 : Int) (t16 : Int) (h1 : List ByteArray) (h2 : List ByteArray) : i_sectorsOf.l0 k 0 epoch0 at6 t15 t16 h1 h2 = none := by kernel_rfl
theorem i_sectorsOf.l0_s (k : Nat) (m : Nat) (epoch0 : Int) (at6 : Int) (t15 : Int) (t16 : Int) (h1 : List ByteArray) (h2 : List ByteArray) : i_sectorsOf.l0 k (m + 1) epoch0 at6 t15 t16 h1 h2 =
 cn (decide (t16 < t15))
 (gd (inb t16 h2.length)
  ((i_frameBytes.f k (3 : Int) (IntKind.i64.wrap (at6 + t16)) epoch0 (getAt ByteArray.empty h2 t16.toNat)).bind fun d2 =>
   gd (appOk (h1.length + [d2].length) (Try.prog.bytesOf (9 : Nat)))
   (i_sectorsOf.l0 k m epoch0 at6 t15 (IntKind.i64.wrap (t16 + (1 : Int))) (h1 ++ [d2]) h2)))
 (some ((h1, at6))) := by kernel_rfl
theorem i_sectorsOf.f_eq (k : Nat) (epoch : Int) (values : List Int) : i_sectorsOf.f k epoch values =
 (i_halfOf.f k epoch).bind fun d0 =>
 (i_stateBytes.f k values).bind fun d1 =>
 i_sectorsOf.l0 k k epoch d0 ((↑(List.length d1) : Int)) ((0 : Int)) ([]) d1 := (opq_eq _).trans (by kernel_rfl)
abbrev i_rootOf.s : Sig := ⟨68, [], [.val], [.one (.int .i64)], [.one .str], [], []⟩
noncomputable def i_rootOf.C (k : Nat) : List (Nat × Ctr) := [(104, i_frameBytes.s.ctr (fun x => i_frameBytes.f k x.1 x.2.1 x.2.2.1 x.2.2.2))]
noncomputable def i_rootOf.f (k : Nat) (epoch : Int) : Option ByteArray := opq (i_rootOf.s.run Try.prog (i_rootOf.C k) k epoch)
theorem i_rootOf.ok (k : Nat) : CtrOk Try.prog 68 (i_rootOf.s.ctr (fun x => i_rootOf.f k x)) := sig_ok i_rootOf.s (.cons (i_frameBytes.ok k) .nil) (by kernel_rfl) fun _ => opq_eq _
theorem i_rootOf.f_eq (k : Nat) (epoch : Int) : i_rootOf.f k epoch =
 (i_frameBytes.f k (4 : Int) (0 : Int) epoch ByteArray.empty).bind fun d0 =>
 some d0 := (opq_eq _).trans (by kernel_rfl)
abbrev i_NewJournal.s : Sig := ⟨24, [], [], [], [.agg [.own 9 .str, .own 9 .str, .own 4 .bool, .int .i64, .int .i64, .own 3 (.int .i64), .own 3 (.int .i64)]], [], []⟩
noncomputable def i_NewJournal.C (k : Nat) : List (Nat × Ctr) := [(66, i_NewDisk.s.ctr (fun x => i_NewDisk.f k x)), (67, i_sectorsOf.s.ctr (fun x => i_sectorsOf.f k x.1 x.2)), (68, i_rootOf.s.ctr (fun x => i_rootOf.f k x))]
noncomputable def i_NewJournal.f (k : Nat)  : Option (List ByteArray × List ByteArray × List Bool × Int × Int × List Int × List Int) := opq (i_NewJournal.s.run Try.prog (i_NewJournal.C k) k ())
theorem i_NewJournal.ok (k : Nat) : CtrOk Try.prog 24 (i_NewJournal.s.ctr (fun _ => i_NewJournal.f k)) := sig_ok i_NewJournal.s (.cons (i_NewDisk.ok k) (.cons (i_sectorsOf.ok k) (.cons (i_rootOf.ok k) .nil))) (by kernel_rfl) fun _ => opq_eq _
theorem i_NewJournal.f_eq (k : Nat) : i_NewJournal.f k =
 (i_NewDisk.f k (5 : Int)).bind fun d0 =>
 (i_sectorsOf.f k (0 : Int) (List.replicate (6 : Nat) (0 : Int))).bind fun d1 =>
 (i_rootOf.f k (0 : Int)).bind fun d2 =>
 gd (inb (0 : Int) d0.fst.fst.length)
 (gd (decide ((0 : Int) ≤ d1.snd) && decide (d1.snd ≤ (↑(d0.fst.fst.set (0 : Nat) d2).length : Int)))
  (some ((copyL (d0.fst.fst.set (0 : Nat) d2) ((0 : Nat) + Int.toNat d1.snd) ((d0.fst.fst.set (0 : Nat) d2).length - Int.toNat d1.snd) d1.fst, d0.fst.snd.fst, d0.fst.snd.snd, (0 : Int), (0 : Int), List.replicate (6 : Nat) (0 : Int), [])))) := (opq_eq _).trans (by kernel_rfl)
abbrev w_eqStringS.s : Sig := ⟨13, [], [.val, .val], [.one (.row 9 .str), .one (.row 9 .str)], [.one .bool], [], [(0, [(0,false),(1,false),(5,false)])]⟩
noncomputable def w_eqStringS.C (k : Nat) : List (Nat × Ctr) := []
noncomputable def w_eqStringS.f (k : Nat) (a : List ByteArray) (b : List ByteArray) : Option Bool := opq (w_eqStringS.s.run Try.prog (w_eqStringS.C k) k (a, b))
theorem w_eqStringS.ok (k : Nat) : CtrOk Try.prog 13 (w_eqStringS.s.ctr (fun x => w_eqStringS.f k x.1 x.2)) := sig_ok w_eqStringS.s .nil (by kernel_rfl) fun _ => opq_eq _
noncomputable def w_eqStringS.l0 (k : Nat) (m : Nat) (a0 : List ByteArray) (b1 : List ByteArray) (i5 : Int) : Option Bool := w_eqStringS.s.head Try.prog (w_eqStringS.C k) k 1 0 [] m [(0, AV.row 9 Kind.str a0), (1, AV.row 9 Kind.str b1), (5, AV.int IntKind.i64 i5)] [Root.dead]
theorem w_eqStringS.l0_z (k : Nat) (a0 : List ByteArray) (b1 : List ByteArray) (i5 : Int) : w_eqStringS.l0 k 0 a0 b1 i5 = none := by kernel_rfl
theorem w_eqStringS.l0_s (k : Nat) (m : Nat) (a0 : List ByteArray) (b1 : List ByteArray) (i5 : Int) : w_eqStringS.l0 k (m + 1) a0 b1 i5 =
 cn (decide (i5 < (↑a0.length : Int)))
 (gd (inb i5 a0.length)
  (gd (inb i5 b1.length)
   (cn (!decide ((getAt ByteArray.empty a0 i5.toNat).toList = (getAt ByteArray.empty b1 i5.toNat).toList))
    (some false)
    (w_eqStringS.l0 k m a0 b1 (IntKind.i64.wrap (i5 + (1 : Int)))))))
 (some true) := by kernel_rfl
theorem w_eqStringS.f_eq (k : Nat) (a : List ByteArray) (b : List ByteArray) : w_eqStringS.f k a b =
 cn (!decide ((↑a.length : Int) = (↑b.length : Int)))
 (some false)
 (w_eqStringS.l0 k k a b ((0 : Int))) := (opq_eq _).trans (by kernel_rfl)
abbrev w_eqBoolS.s : Sig := ⟨49, [], [.val, .val], [.one (.row 4 .bool), .one (.row 4 .bool)], [.one .bool], [], [(0, [(0,false),(1,false),(5,false)])]⟩
noncomputable def w_eqBoolS.C (k : Nat) : List (Nat × Ctr) := []
noncomputable def w_eqBoolS.f (k : Nat) (a : List Bool) (b : List Bool) : Option Bool := opq (w_eqBoolS.s.run Try.prog (w_eqBoolS.C k) k (a, b))
theorem w_eqBoolS.ok (k : Nat) : CtrOk Try.prog 49 (w_eqBoolS.s.ctr (fun x => w_eqBoolS.f k x.1 x.2)) := sig_ok w_eqBoolS.s .nil (by kernel_rfl) fun _ => opq_eq _
noncomputable def w_eqBoolS.l0 (k : Nat) (m : Nat) (a0 : List Bool) (b1 : List Bool) (i5 : Int) : Option Bool := w_eqBoolS.s.head Try.prog (w_eqBoolS.C k) k 1 0 [] m [(0, AV.row 4 Kind.bool a0), (1, AV.row 4 Kind.bool b1), (5, AV.int IntKind.i64 i5)] [Root.dead]
theorem w_eqBoolS.l0_z (k : Nat) (a0 : List Bool) (b1 : List Bool) (i5 : Int) : w_eqBoolS.l0 k 0 a0 b1 i5 = none := by kernel_rfl
theorem w_eqBoolS.l0_s (k : Nat) (m : Nat) (a0 : List Bool) (b1 : List Bool) (i5 : Int) : w_eqBoolS.l0 k (m + 1) a0 b1 i5 =
 cn (decide (i5 < (↑a0.length : Int)))
 (gd (inb i5 a0.length)
  (gd (inb i5 b1.length)
   (cn (!getAt false a0 i5.toNat == getAt false b1 i5.toNat)
    (some false)
    (w_eqBoolS.l0 k m a0 b1 (IntKind.i64.wrap (i5 + (1 : Int)))))))
 (some true) := by kernel_rfl
theorem w_eqBoolS.f_eq (k : Nat) (a : List Bool) (b : List Bool) : w_eqBoolS.f k a b =
 cn (!decide ((↑a.length : Int) = (↑b.length : Int)))
 (some false)
 (w_eqBoolS.l0 k k a b ((0 : Int))) := (opq_eq _).trans (by kernel_rfl)
abbrev w_eqDisk.s : Sig := ⟨32, [], [.val, .val], [.agg [.row 9 .str, .row 9 .str, .row 4 .bool], .agg [.row 9 .str, .row 9 .str, .row 4 .bool]], [.one .bool], [], []⟩
noncomputable def w_eqDisk.C (k : Nat) : List (Nat × Ctr) := [(13, w_eqStringS.s.ctr (fun x => w_eqStringS.f k x.1 x.2)), (49, w_eqBoolS.s.ctr (fun x => w_eqBoolS.f k x.1 x.2))]
noncomputable def w_eqDisk.f (k : Nat) (a_Plate : List ByteArray) (a_Held : List ByteArray) (a_Bad : List Bool) (b_Plate : List ByteArray) (b_Held : List ByteArray) (b_Bad : List Bool) : Option Bool := opq (w_eqDisk.s.run Try.prog (w_eqDisk.C k) k ((a_Plate, a_Held, a_Bad), (b_Plate, b_Held, b_Bad)))
theorem w_eqDisk.ok (k : Nat) : CtrOk Try.prog 32 (w_eqDisk.s.ctr (fun x => w_eqDisk.f k x.1.1 x.1.2.1 x.1.2.2 x.2.1 x.2.2.1 x.2.2.2)) := sig_ok w_eqDisk.s (.cons (w_eqStringS.ok k) (.cons (w_eqBoolS.ok k) .nil)) (by kernel_rfl) fun _ => opq_eq _
theorem w_eqDisk.f_eq (k : Nat) (a_Plate : List ByteArray) (a_Held : List ByteArray) (a_Bad : List Bool) (b_Plate : List ByteArray) (b_Held : List ByteArray) (b_Bad : List Bool) : w_eqDisk.f k a_Plate a_Held a_Bad b_Plate b_Held b_Bad =
 (w_eqStringS.f k a_Plate b_Plate).bind fun d0 =>
 cn (!d0)
 (some false)
 ((w_eqStringS.f k a_Held b_Held).bind fun d1 =>
  cn (!d1)
  (some false)
  ((w_eqBoolS.f k a_Bad b_Bad).bind fun d2 =>
   cn (!d2)
   (some false)
   (some true))) := (opq_eq _).trans (by kernel_rfl)
abbrev w_eqIntS.s : Sig := ⟨14, [], [.val, .val], [.one (.row 3 (.int .i64)), .one (.row 3 (.int .i64))], [.one .bool], [], [(0, [(0,false),(1,false),(5,false)])]⟩
noncomputable def w_eqIntS.C (k : Nat) : List (Nat × Ctr) := []
noncomputable def w_eqIntS.f (k : Nat) (a : List Int) (b : List Int) : Option Bool := opq (w_eqIntS.s.run Try.prog (w_eqIntS.C k) k (a, b))
theorem w_eqIntS.ok (k : Nat) : CtrOk Try.prog 14 (w_eqIntS.s.ctr (fun x => w_eqIntS.f k x.1 x.2)) := sig_ok w_eqIntS.s .nil (by kernel_rfl) fun _ => opq_eq _
noncomputable def w_eqIntS.l0 (k : Nat) (m : Nat) (a0 : List Int) (b1 : List Int) (i5 : Int) : Option Bool := w_eqIntS.s.head Try.prog (w_eqIntS.C k) k 1 0 [] m [(0, AV.row 3 (Kind.int IntKind.i64) a0), (1, AV.row 3 (Kind.int IntKind.i64) b1), (5, AV.int IntKind.i64 i5)] [Root.dead]
theorem w_eqIntS.l0_z (k : Nat) (a0 : List Int) (b1 : List Int) (i5 : Int) : w_eqIntS.l0 k 0 a0 b1 i5 = none := by kernel_rfl
theorem w_eqIntS.l0_s (k : Nat) (m : Nat) (a0 : List Int) (b1 : List Int) (i5 : Int) : w_eqIntS.l0 k (m + 1) a0 b1 i5 =
 cn (decide (i5 < (↑a0.length : Int)))
 (gd (inb i5 a0.length)
  (gd (inb i5 b1.length)
   (cn (!decide (getAt (0 : Int) a0 i5.toNat = getAt (0 : Int) b1 i5.toNat))
    (some false)
    (w_eqIntS.l0 k m a0 b1 (IntKind.i64.wrap (i5 + (1 : Int)))))))
 (some true) := by kernel_rfl
theorem w_eqIntS.f_eq (k : Nat) (a : List Int) (b : List Int) : w_eqIntS.f k a b =
 cn (!decide ((↑a.length : Int) = (↑b.length : Int)))
 (some false)
 (w_eqIntS.l0 k k a b ((0 : Int))) := (opq_eq _).trans (by kernel_rfl)
abbrev w_eqJournal.s : Sig := ⟨25, [], [.val, .val], [.agg [.row 9 .str, .row 9 .str, .row 4 .bool, .int .i64, .int .i64, .row 3 (.int .i64), .row 3 (.int .i64)], .agg [.row 9 .str, .row 9 .str, .row 4 .bool, .int .i64, .int .i64, .row 3 (.int .i64), .row 3 (.int .i64)]], [.one .bool], [], []⟩
noncomputable def w_eqJournal.C (k : Nat) : List (Nat × Ctr) := [(14, w_eqIntS.s.ctr (fun x => w_eqIntS.f k x.1 x.2)), (32, w_eqDisk.s.ctr (fun x => w_eqDisk.f k x.1.1 x.1.2.1 x.1.2.2 x.2.1 x.2.2.1 x.2.2.2))]
noncomputable def w_eqJournal.f (k : Nat) (a_Disk_Plate : List ByteArray) (a_Disk_Held : List ByteArray) (a_Disk_Bad : List Bool) (a_Epoch : Int) (a_Phase : Int) (a_Acked : List Int) (a_Coming : List Int) (b_Disk_Plate : List ByteArray) (b_Disk_Held : List ByteArray) (b_Disk_Bad : List Bool) (b_Epoch : Int) (b_Phase : Int) (b_Acked : List Int) (b_Coming : List Int) : Option Bool := opq (w_eqJournal.s.run Try.prog (w_eqJournal.C k) k ((a_Disk_Plate, a_Disk_Held, a_Disk_Bad, a_Epoch, a_Phase, a_Acked, a_Coming), (b_Disk_Plate, b_Disk_Held, b_Disk_Bad, b_Epoch, b_Phase, b_Acked, b_Coming)))
theorem w_eqJournal.ok (k : Nat) : CtrOk Try.prog 25 (w_eqJournal.s.ctr (fun x => w_eqJournal.f k x.1.1 x.1.2.1 x.1.2.2.1 x.1.2.2.2.1 x.1.2.2.2.2.1 x.1.2.2.2.2.2.1 x.1.2.2.2.2.2.2 x.2.1 x.2.2.1 x.2.2.2.1 x.2.2.2.2.1 x.2.2.2.2.2.1 x.2.2.2.2.2.2.1 x.2.2.2.2.2.2.2)) := sig_ok w_eqJournal.s (.cons (w_eqIntS.ok k) (.cons (w_eqDisk.ok k) .nil)) (by kernel_rfl) fun _ => opq_eq _
theorem w_eqJournal.f_eq (k : Nat) (a_Disk_Plate : List ByteArray) (a_Disk_Held : List ByteArray) (a_Disk_Bad : List Bool) (a_Epoch : Int) (a_Phase : Int) (a_Acked : List Int) (a_Coming : List Int) (b_Disk_Plate : List ByteArray) (b_Disk_Held : List ByteArray) (b_Disk_Bad : List Bool) (b_Epoch : Int) (b_Phase : Int) (b_Acked : List Int) (b_Coming : List Int) : w_eqJournal.f k a_Disk_Plate a_Disk_Held a_Disk_Bad a_Epoch a_Phase a_Acked a_Coming b_Disk_Plate b_Disk_Held b_Disk_Bad b_Epoch b_Phase b_Acked b_Coming =
 (w_eqDisk.f k a_Disk_Plate a_Disk_Held a_Disk_Bad b_Disk_Plate b_Disk_Held b_Disk_Bad).bind fun d0 =>
 cn (!d0)
 (some false)
 (cn (!decide (a_Epoch = b_Epoch))
  (some false)
  (cn (!decide (a_Phase = b_Phase))
   (some false)
   ((w_eqIntS.f k a_Acked b_Acked).bind fun d1 =>
    cn (!d1)
    (some false)
    ((w_eqIntS.f k a_Coming b_Coming).bind fun d2 =>
     cn (!d2)
     (some false)
     (some true))))) := (opq_eq _).trans (by kernel_rfl)
abbrev w_markText.s : Sig := ⟨58, [], [.val], [.one (.int .i64)], [.one .str], [], [(0, [(0,false),(3,false)])]⟩
noncomputable def w_markText.C (k : Nat) : List (Nat × Ctr) := []
noncomputable def w_markText.f (k : Nat) (k_ : Int) : Option ByteArray := opq (w_markText.s.run Try.prog (w_markText.C k) k k_)
theorem w_markText.ok (k : Nat) : CtrOk Try.prog 58 (w_markText.s.ctr (fun x => w_markText.f k x)) := sig_ok w_markText.s .nil (by kernel_rfl) fun _ => opq_eq _
noncomputable def w_markText.l0 (k : Nat) (m : Nat) (k0 : Int) (out3 : ByteArray) : Option ByteArray := w_markText.s.head Try.prog (w_markText.C k) k 1 0 [] m [(0, AV.int IntKind.i64 k0), (3, AV.str out3)] [Root.dead]
theorem w_markText.l0_z (k : Nat) (k0 : Int) (out3 : ByteArray) : w_markText.l0 k 0 k0 out3 = none := by kernel_rfl
theorem w_markText.l0_s (k : Nat) (m : Nat) (k0 : Int) (out3 : ByteArray) : w_markText.l0 k (m + 1) k0 out3 =
 cn (decide ((0 : Int) < k0))
 (gd (decide ((strOfNums [IntKind.u8.wrap (IntKind.i64.wrap ((48 : Int) + k0.tmod (10 : Int)))]).size + out3.size ≤ (140737488355328 : Nat)))
  (w_markText.l0 k m (IntKind.i64.wrap (k0.tdiv (10 : Int))) (strOfNums [IntKind.u8.wrap (IntKind.i64.wrap ((48 : Int) + k0.tmod (10 : Int)))] ++ out3)))
 (gd (decide ((1 : Nat) + out3.size ≤ (140737488355328 : Nat)))
  (some ({ data := #[(109 : UInt8)] : ByteArray } ++ out3))) := by kernel_rfl
theorem w_markText.f_eq (k : Nat) (k_ : Int) : w_markText.f k k_ =
 cn (decide (k_ ≤ (0 : Int)))
 (some ({ data := #[(109 : UInt8), (48 : UInt8)] : ByteArray }))
 (w_markText.l0 k k k_ ByteArray.empty) := (opq_eq _).trans (by kernel_rfl)
abbrev w_markStringS.s : Sig := ⟨16, [], [.chg, .val], [.one (.row 9 .str), .one (.int .i64)], [.one (.int .i64)], [.rows 9 .str], [(0, [(0,false),(1,false),(5,false)])]⟩
noncomputable def w_markStringS.C (k : Nat) : List (Nat × Ctr) := [(58, w_markText.s.ctr (fun x => w_markText.f k x))]
noncomputable def w_markStringS.f (k : Nat) (a : List ByteArray) (k_ : Int) : Option (Int × List ByteArray) := opq (w_markStringS.s.run Try.prog (w_markStringS.C k) k (a, k_))
theorem w_markStringS.ok (k : Nat) : CtrOk Try.prog 16 (w_markStringS.s.ctr (fun x => w_markStringS.f k x.1 x.2)) := sig_ok w_markStringS.s (.cons (w_markText.ok k) .nil) (by kernel_rfl) fun _ => opq_eq _
noncomputable def w_markStringS.l0 (k : Nat) (m : Nat) (k1 : Int) (i5 : Int) (h1 : List ByteArray) : Option (Int × List ByteArray) := w_markStringS.s.head Try.prog (w_markStringS.C k) k 2 0 [] m [(0, AV.ref 1), (1, AV.int IntKind.i64 k1), (5, AV.int IntKind.i64 i5)] [Root.dead, Root.rows 9 Kind.str h1]
theorem w_markStringS.l0_z (k : Nat) (k1 : Int) (i5 : Int) (h1 : List ByteArray) : w_markStringS.l0 k 0 k1 i5 h1 = none := by kernel_rfl
theorem w_markStringS.l0_s (k : Nat) (m : Nat) (k1 : Int) (i5 : Int) (h1 : List ByteArray) : w_markStringS.l0 k (m + 1) k1 i5 h1 =
 cn (decide (i5 < (↑h1.length : Int)))
 ((w_markText.f k k1).bind fun d0 =>
  gd (inb i5 h1.length)
  (w_markStringS.l0 k m (IntKind.i64.wrap (k1 + (1 : Int))) (IntKind.i64.wrap (i5 + (1 : Int))) (h1.set i5.toNat d0)))
 (some ((k1, h1))) := by kernel_rfl
theorem w_markStringS.f_eq (k : Nat) (a : List ByteArray) (k_ : Int) : w_markStringS.f k a k_ =
 w_markStringS.l0 k k k_ ((0 : Int)) a := (opq_eq _).trans (by kernel_rfl)
abbrev w_markBoolS.s : Sig := ⟨52, [], [.chg, .val], [.one (.row 4 .bool), .one (.int .i64)], [.one (.int .i64)], [.rows 4 .bool], [(0, [(0,false),(1,false),(5,false)])]⟩
noncomputable def w_markBoolS.C (k : Nat) : List (Nat × Ctr) := []
noncomputable def w_markBoolS.f (k : Nat) (a : List Bool) (k_ : Int) : Option (Int × List Bool) := opq (w_markBoolS.s.run Try.prog (w_markBoolS.C k) k (a, k_))
theorem w_markBoolS.ok (k : Nat) : CtrOk Try.prog 52 (w_markBoolS.s.ctr (fun x => w_markBoolS.f k x.1 x.2)) := sig_ok w_markBoolS.s .nil (by kernel_rfl) fun _ => opq_eq _
noncomputable def w_markBoolS.l0 (k : Nat) (m : Nat) (k1 : Int) (i5 : Int) (h1 : List Bool) : Option (Int × List Bool) := w_markBoolS.s.head Try.prog (w_markBoolS.C k) k 2 0 [] m [(0, AV.ref 1), (1, AV.int IntKind.i64 k1), (5, AV.int IntKind.i64 i5)] [Root.dead, Root.rows 4 Kind.bool h1]
theorem w_markBoolS.l0_z (k : Nat) (k1 : Int) (i5 : Int) (h1 : List Bool) : w_markBoolS.l0 k 0 k1 i5 h1 = none := by kernel_rfl
theorem w_markBoolS.l0_s (k : Nat) (m : Nat) (k1 : Int) (i5 : Int) (h1 : List Bool) : w_markBoolS.l0 k (m + 1) k1 i5 h1 =
 cn (decide (i5 < (↑h1.length : Int)))
 (gd (inb i5 h1.length)
  (w_markBoolS.l0 k m (IntKind.i64.wrap (k1 + (1 : Int))) (IntKind.i64.wrap (i5 + (1 : Int))) (h1.set i5.toNat (decide (k1.tmod (3 : Int) = (0 : Int))))))
 (some ((k1, h1))) := by kernel_rfl
theorem w_markBoolS.f_eq (k : Nat) (a : List Bool) (k_ : Int) : w_markBoolS.f k a k_ =
 w_markBoolS.l0 k k k_ ((0 : Int)) a := (opq_eq _).trans (by kernel_rfl)
abbrev w_markDisk.s : Sig := ⟨33, [.agg 3, .one], [.chg, .chg, .chg, .val], [.one (.row 9 .str), .one (.row 9 .str), .one (.row 4 .bool), .one (.int .i64)], [.one (.int .i64)], [.rows 9 .str, .rows 9 .str, .rows 4 .bool], []⟩
noncomputable def w_markDisk.C (k : Nat) : List (Nat × Ctr) := [(16, w_markStringS.s.ctr (fun x => w_markStringS.f k x.1 x.2)), (52, w_markBoolS.s.ctr (fun x => w_markBoolS.f k x.1 x.2))]
noncomputable def w_markDisk.f (k : Nat) (a_Plate : List ByteArray) (a_Held : List ByteArray) (a_Bad : List Bool) (k_ : Int) : Option (Int × List ByteArray × List ByteArray × List Bool) := opq (w_markDisk.s.run Try.prog (w_markDisk.C k) k (a_Plate, a_Held, a_Bad, k_))
theorem w_markDisk.ok (k : Nat) : CtrOk Try.prog 33 (w_markDisk.s.ctr (fun x => w_markDisk.f k x.1 x.2.1 x.2.2.1 x.2.2.2)) := sig_ok w_markDisk.s (.cons (w_markStringS.ok k) (.cons (w_markBoolS.ok k) .nil)) (by kernel_rfl) fun _ => opq_eq _
theorem w_markDisk.f_eq (k : Nat) (a_Plate : List ByteArray) (a_Held : List ByteArray) (a_Bad : List Bool) (k_ : Int) : w_markDisk.f k a_Plate a_Held a_Bad k_ =
 (w_markStringS.f k a_Plate k_).bind fun d0 =>
 (w_markStringS.f k a_Held d0.fst).bind fun d1 =>
 (w_markBoolS.f k a_Bad d1.fst).bind fun d2 =>
 some ((d2.fst, d0.snd, d1.snd, d2.snd)) := (opq_eq _).trans (by kernel_rfl)
abbrev w_markIntS.s : Sig := ⟨15, [], [.chg, .val], [.one (.row 3 (.int .i64)), .one (.int .i64)], [.one (.int .i64)], [.rows 3 (.int .i64)], [(0, [(0,false),(1,false),(5,false)])]⟩
noncomputable def w_markIntS.C (k : Nat) : List (Nat × Ctr) := []
noncomputable def w_markIntS.f (k : Nat) (a : List Int) (k_ : Int) : Option (Int × List Int) := opq (w_markIntS.s.run Try.prog (w_markIntS.C k) k (a, k_))
theorem w_markIntS.ok (k : Nat) : CtrOk Try.prog 15 (w_markIntS.s.ctr (fun x => w_markIntS.f k x.1 x.2)) := sig_ok w_markIntS.s .nil (by kernel_rfl) fun _ => opq_eq _
noncomputable def w_markIntS.l0 (k : Nat) (m : Nat) (k1 : Int) (i5 : Int) (h1 : List Int) : Option (Int × List Int) := w_markIntS.s.head Try.prog (w_markIntS.C k) k 2 0 [] m [(0, AV.ref 1), (1, AV.int IntKind.i64 k1), (5, AV.int IntKind.i64 i5)] [Root.dead, Root.rows 3 (Kind.int IntKind.i64) h1]
theorem w_markIntS.l0_z (k : Nat) (k1 : Int) (i5 : Int) (h1 : List Int) : w_markIntS.l0 k 0 k1 i5 h1 = none := by kernel_rfl
theorem w_markIntS.l0_s (k : Nat) (m : Nat) (k1 : Int) (i5 : Int) (h1 : List Int) : w_markIntS.l0 k (m + 1) k1 i5 h1 =
 cn (decide (i5 < (↑h1.length : Int)))
 (gd (inb i5 h1.length)
  (w_markIntS.l0 k m (IntKind.i64.wrap (k1 + (1 : Int))) (IntKind.i64.wrap (i5 + (1 : Int))) (h1.set i5.toNat k1)))
 (some ((k1, h1))) := by kernel_rfl
theorem w_markIntS.f_eq (k : Nat) (a : List Int) (k_ : Int) : w_markIntS.f k a k_ =
 w_markIntS.l0 k k k_ ((0 : Int)) a := (opq_eq _).trans (by kernel_rfl)
abbrev w_markJournal.s : Sig := ⟨26, [.agg 7, .one], [.chg, .chg, .chg, .val, .val, .chg, .chg, .val], [.one (.row 9 .str), .one (.row 9 .str), .one (.row 4 .bool), .one (.int .i64), .one (.int .i64), .one (.row 3 (.int .i64)), .one (.row 3 (.int .i64)), .one (.int .i64)], [.one (.int .i64)], [.rows 9 .str, .rows 9 .str, .rows 4 .bool, .rows 3 (.int .i64), .rows 3 (.int .i64)], []⟩
noncomputable def w_markJournal.C (k : Nat) : List (Nat × Ctr) := [(15, w_markIntS.s.ctr (fun x => w_markIntS.f k x.1 x.2)), (33, w_markDisk.s.ctr (fun x => w_markDisk.f k x.1 x.2.1 x.2.2.1 x.2.2.2))]
noncomputable def w_markJournal.f (k : Nat) (a_Disk_Plate : List ByteArray) (a_Disk_Held : List ByteArray) (a_Disk_Bad : List Bool) (a_Epoch : Int) (a_Phase : Int) (a_Acked : List Int) (a_Coming : List Int) (k_ : Int) : Option (Int × List ByteArray × List ByteArray × List Bool × List Int × List Int) := opq (w_markJournal.s.run Try.prog (w_markJournal.C k) k (a_Disk_Plate, a_Disk_Held, a_Disk_Bad, a_Epoch, a_Phase, a_Acked, a_Coming, k_))
theorem w_markJournal.ok (k : Nat) : CtrOk Try.prog 26 (w_markJournal.s.ctr (fun x => w_markJournal.f k x.1 x.2.1 x.2.2.1 x.2.2.2.1 x.2.2.2.2.1 x.2.2.2.2.2.1 x.2.2.2.2.2.2.1 x.2.2.2.2.2.2.2)) := sig_ok w_markJournal.s (.cons (w_markIntS.ok k) (.cons (w_markDisk.ok k) .nil)) (by kernel_rfl) fun _ => opq_eq _
theorem w_markJournal.f_eq (k : Nat) (a_Disk_Plate : List ByteArray) (a_Disk_Held : List ByteArray) (a_Disk_Bad : List Bool) (a_Epoch : Int) (a_Phase : Int) (a_Acked : List Int) (a_Coming : List Int) (k_ : Int) : w_markJournal.f k a_Disk_Plate a_Disk_Held a_Disk_Bad a_Epoch a_Phase a_Acked a_Coming k_ =
 (w_markDisk.f k a_Disk_Plate a_Disk_Held a_Disk_Bad k_).bind fun d0 =>
 (w_markIntS.f k a_Acked d0.fst).bind fun d1 =>
 (w_markIntS.f k a_Coming d1.fst).bind fun d2 =>
 some ((d2.fst, d0.snd.fst, d0.snd.snd.fst, d0.snd.snd.snd, d1.snd, d2.snd)) := (opq_eq _).trans (by kernel_rfl)
abbrev w_heldStringS.s : Sig := ⟨17, [], [.val, .val], [.one (.row 9 .str), .one (.int .i64)], [.one (.int .i64)], [], [(0, [(0,false),(1,false),(5,false)])]⟩
noncomputable def w_heldStringS.C (k : Nat) : List (Nat × Ctr) := [(58, w_markText.s.ctr (fun x => w_markText.f k x))]
noncomputable def w_heldStringS.f (k : Nat) (a : List ByteArray) (k_ : Int) : Option Int := opq (w_heldStringS.s.run Try.prog (w_heldStringS.C k) k (a, k_))
theorem w_heldStringS.ok (k : Nat) : CtrOk Try.prog 17 (w_heldStringS.s.ctr (fun x => w_heldStringS.f k x.1 x.2)) := sig_ok w_heldStringS.s (.cons (w_markText.ok k) .nil) (by kernel_rfl) fun _ => opq_eq _
noncomputable def w_heldStringS.l0 (k : Nat) (m : Nat) (a0 : List ByteArray) (k1 : Int) (i5 : Int) : Option Int := w_heldStringS.s.head Try.prog (w_heldStringS.C k) k 1 0 [] m [(0, AV.row 9 Kind.str a0), (1, AV.int IntKind.i64 k1), (5, AV.int IntKind.i64 i5)] [Root.dead]
theorem w_heldStringS.l0_z (k : Nat) (a0 : List ByteArray) (k1 : Int) (i5 : Int) : w_heldStringS.l0 k 0 a0 k1 i5 = none := by kernel_rfl
theorem w_heldStringS.l0_s (k : Nat) (m : Nat) (a0 : List ByteArray) (k1 : Int) (i5 : Int) : w_heldStringS.l0 k (m + 1) a0 k1 i5 =
 cn (decide (i5 < (↑a0.length : Int)))
 (gd (inb i5 a0.length)
  ((w_markText.f k k1).bind fun d0 =>
   cn (!decide ((getAt ByteArray.empty a0 i5.toNat).toList = ByteArray.toList d0))
   (some ((-1 : Int)))
   (w_heldStringS.l0 k m a0 (IntKind.i64.wrap (k1 + (1 : Int))) (IntKind.i64.wrap (i5 + (1 : Int))))))
 (some k1) := by kernel_rfl
theorem w_heldStringS.f_eq (k : Nat) (a : List ByteArray) (k_ : Int) : w_heldStringS.f k a k_ =
 w_heldStringS.l0 k k a k_ ((0 : Int)) := (opq_eq _).trans (by kernel_rfl)
abbrev w_heldBoolS.s : Sig := ⟨53, [], [.val, .val], [.one (.row 4 .bool), .one (.int .i64)], [.one (.int .i64)], [], [(0, [(0,false),(1,false),(5,false)])]⟩
noncomputable def w_heldBoolS.C (k : Nat) : List (Nat × Ctr) := []
noncomputable def w_heldBoolS.f (k : Nat) (a : List Bool) (k_ : Int) : Option Int := opq (w_heldBoolS.s.run Try.prog (w_heldBoolS.C k) k (a, k_))
theorem w_heldBoolS.ok (k : Nat) : CtrOk Try.prog 53 (w_heldBoolS.s.ctr (fun x => w_heldBoolS.f k x.1 x.2)) := sig_ok w_heldBoolS.s .nil (by kernel_rfl) fun _ => opq_eq _
noncomputable def w_heldBoolS.l0 (k : Nat) (m : Nat) (a0 : List Bool) (k1 : Int) (i5 : Int) : Option Int := w_heldBoolS.s.head Try.prog (w_heldBoolS.C k) k 1 0 [] m [(0, AV.row 4 Kind.bool a0), (1, AV.int IntKind.i64 k1), (5, AV.int IntKind.i64 i5)] [Root.dead]
theorem w_heldBoolS.l0_z (k : Nat) (a0 : List Bool) (k1 : Int) (i5 : Int) : w_heldBoolS.l0 k 0 a0 k1 i5 = none := by kernel_rfl
theorem w_heldBoolS.l0_s (k : Nat) (m : Nat) (a0 : List Bool) (k1 : Int) (i5 : Int) : w_heldBoolS.l0 k (m + 1) a0 k1 i5 =
 cn (decide (i5 < (↑a0.length : Int)))
 (gd (inb i5 a0.length)
  (cn (!getAt false a0 i5.toNat == decide (k1.tmod (3 : Int) = (0 : Int)))
   (some ((-1 : Int)))
   (w_heldBoolS.l0 k m a0 (IntKind.i64.wrap (k1 + (1 : Int))) (IntKind.i64.wrap (i5 + (1 : Int))))))
 (some k1) := by kernel_rfl
theorem w_heldBoolS.f_eq (k : Nat) (a : List Bool) (k_ : Int) : w_heldBoolS.f k a k_ =
 w_heldBoolS.l0 k k a k_ ((0 : Int)) := (opq_eq _).trans (by kernel_rfl)
abbrev w_heldDisk.s : Sig := ⟨69, [], [.val, .val], [.agg [.row 9 .str, .row 9 .str, .row 4 .bool], .one (.int .i64)], [.one (.int .i64)], [], []⟩
noncomputable def w_heldDisk.C (k : Nat) : List (Nat × Ctr) := [(17, w_heldStringS.s.ctr (fun x => w_heldStringS.f k x.1 x.2)), (53, w_heldBoolS.s.ctr (fun x => w_heldBoolS.f k x.1 x.2))]
noncomputable def w_heldDisk.f (k : Nat) (a_Plate : List ByteArray) (a_Held : List ByteArray) (a_Bad : List Bool) (k_ : Int) : Option Int := opq (w_heldDisk.s.run Try.prog (w_heldDisk.C k) k ((a_Plate, a_Held, a_Bad), k_))
theorem w_heldDisk.ok (k : Nat) : CtrOk Try.prog 69 (w_heldDisk.s.ctr (fun x => w_heldDisk.f k x.1.1 x.1.2.1 x.1.2.2 x.2)) := sig_ok w_heldDisk.s (.cons (w_heldStringS.ok k) (.cons (w_heldBoolS.ok k) .nil)) (by kernel_rfl) fun _ => opq_eq _
theorem w_heldDisk.f_eq (k : Nat) (a_Plate : List ByteArray) (a_Held : List ByteArray) (a_Bad : List Bool) (k_ : Int) : w_heldDisk.f k a_Plate a_Held a_Bad k_ =
 (w_heldStringS.f k a_Plate k_).bind fun d0 =>
 cn (decide (d0 < (0 : Int)))
 (some ((-1 : Int)))
 ((w_heldStringS.f k a_Held d0).bind fun d1 =>
  cn (decide (d1 < (0 : Int)))
  (some ((-1 : Int)))
  ((w_heldBoolS.f k a_Bad d1).bind fun d2 =>
   cn (decide (d2 < (0 : Int)))
   (some ((-1 : Int)))
   (some d2))) := (opq_eq _).trans (by kernel_rfl)
abbrev w_heldIntS.s : Sig := ⟨22, [], [.val, .val], [.one (.row 3 (.int .i64)), .one (.int .i64)], [.one (.int .i64)], [], [(0, [(0,false),(1,false),(5,false)])]⟩
noncomputable def w_heldIntS.C (k : Nat) : List (Nat × Ctr) := []
noncomputable def w_heldIntS.f (k : Nat) (a : List Int) (k_ : Int) : Option Int := opq (w_heldIntS.s.run Try.prog (w_heldIntS.C k) k (a, k_))
theorem w_heldIntS.ok (k : Nat) : CtrOk Try.prog 22 (w_heldIntS.s.ctr (fun x => w_heldIntS.f k x.1 x.2)) := sig_ok w_heldIntS.s .nil (by kernel_rfl) fun _ => opq_eq _
noncomputable def w_heldIntS.l0 (k : Nat) (m : Nat) (a0 : List Int) (k1 : Int) (i5 : Int) : Option Int := w_heldIntS.s.head Try.prog (w_heldIntS.C k) k 1 0 [] m [(0, AV.row 3 (Kind.int IntKind.i64) a0), (1, AV.int IntKind.i64 k1), (5, AV.int IntKind.i64 i5)] [Root.dead]
theorem w_heldIntS.l0_z (k : Nat) (a0 : List Int) (k1 : Int) (i5 : Int) : w_heldIntS.l0 k 0 a0 k1 i5 = none := by kernel_rfl
theorem w_heldIntS.l0_s (k : Nat) (m : Nat) (a0 : List Int) (k1 : Int) (i5 : Int) : w_heldIntS.l0 k (m + 1) a0 k1 i5 =
 cn (decide (i5 < (↑a0.length : Int)))
 (gd (inb i5 a0.length)
  (cn (!decide (getAt (0 : Int) a0 i5.toNat = k1))
   (some ((-1 : Int)))
   (w_heldIntS.l0 k m a0 (IntKind.i64.wrap (k1 + (1 : Int))) (IntKind.i64.wrap (i5 + (1 : Int))))))
 (some k1) := by kernel_rfl
theorem w_heldIntS.f_eq (k : Nat) (a : List Int) (k_ : Int) : w_heldIntS.f k a k_ =
 w_heldIntS.l0 k k a k_ ((0 : Int)) := (opq_eq _).trans (by kernel_rfl)
abbrev w_heldJournal.s : Sig := ⟨27, [], [.val, .val], [.agg [.row 9 .str, .row 9 .str, .row 4 .bool, .int .i64, .int .i64, .row 3 (.int .i64), .row 3 (.int .i64)], .one (.int .i64)], [.one (.int .i64)], [], []⟩
noncomputable def w_heldJournal.C (k : Nat) : List (Nat × Ctr) := [(22, w_heldIntS.s.ctr (fun x => w_heldIntS.f k x.1 x.2)), (69, w_heldDisk.s.ctr (fun x => w_heldDisk.f k x.1.1 x.1.2.1 x.1.2.2 x.2))]
noncomputable def w_heldJournal.f (k : Nat) (a_Disk_Plate : List ByteArray) (a_Disk_Held : List ByteArray) (a_Disk_Bad : List Bool) (a_Epoch : Int) (a_Phase : Int) (a_Acked : List Int) (a_Coming : List Int) (k_ : Int) : Option Int := opq (w_heldJournal.s.run Try.prog (w_heldJournal.C k) k ((a_Disk_Plate, a_Disk_Held, a_Disk_Bad, a_Epoch, a_Phase, a_Acked, a_Coming), k_))
theorem w_heldJournal.ok (k : Nat) : CtrOk Try.prog 27 (w_heldJournal.s.ctr (fun x => w_heldJournal.f k x.1.1 x.1.2.1 x.1.2.2.1 x.1.2.2.2.1 x.1.2.2.2.2.1 x.1.2.2.2.2.2.1 x.1.2.2.2.2.2.2 x.2)) := sig_ok w_heldJournal.s (.cons (w_heldIntS.ok k) (.cons (w_heldDisk.ok k) .nil)) (by kernel_rfl) fun _ => opq_eq _
theorem w_heldJournal.f_eq (k : Nat) (a_Disk_Plate : List ByteArray) (a_Disk_Held : List ByteArray) (a_Disk_Bad : List Bool) (a_Epoch : Int) (a_Phase : Int) (a_Acked : List Int) (a_Coming : List Int) (k_ : Int) : w_heldJournal.f k a_Disk_Plate a_Disk_Held a_Disk_Bad a_Epoch a_Phase a_Acked a_Coming k_ =
 (w_heldDisk.f k a_Disk_Plate a_Disk_Held a_Disk_Bad k_).bind fun d0 =>
 cn (decide (d0 < (0 : Int)))
 (some ((-1 : Int)))
 ((w_heldIntS.f k a_Acked d0).bind fun d1 =>
  cn (decide (d1 < (0 : Int)))
  (some ((-1 : Int)))
  ((w_heldIntS.f k a_Coming d1).bind fun d2 =>
   cn (decide (d2 < (0 : Int)))
   (some ((-1 : Int)))
   (some d2))) := (opq_eq _).trans (by kernel_rfl)
abbrev w_FnExactNewJournal.s : Sig := ⟨5, [], [], [], [.one .bool], [], []⟩
noncomputable def w_FnExactNewJournal.C (k : Nat) : List (Nat × Ctr) := [(23, s_NewJournal.s.ctr (fun _ => s_NewJournal.f k)), (24, i_NewJournal.s.ctr (fun _ => i_NewJournal.f k)), (25, w_eqJournal.s.ctr (fun x => w_eqJournal.f k x.1.1 x.1.2.1 x.1.2.2.1 x.1.2.2.2.1 x.1.2.2.2.2.1 x.1.2.2.2.2.2.1 x.1.2.2.2.2.2.2 x.2.1 x.2.2.1 x.2.2.2.1 x.2.2.2.2.1 x.2.2.2.2.2.1 x.2.2.2.2.2.2.1 x.2.2.2.2.2.2.2)), (26, w_markJournal.s.ctr (fun x => w_markJournal.f k x.1 x.2.1 x.2.2.1 x.2.2.2.1 x.2.2.2.2.1 x.2.2.2.2.2.1 x.2.2.2.2.2.2.1 x.2.2.2.2.2.2.2)), (27, w_heldJournal.s.ctr (fun x => w_heldJournal.f k x.1.1 x.1.2.1 x.1.2.2.1 x.1.2.2.2.1 x.1.2.2.2.2.1 x.1.2.2.2.2.2.1 x.1.2.2.2.2.2.2 x.2))]
noncomputable def w_FnExactNewJournal.f (k : Nat)  : Option Bool := opq (w_FnExactNewJournal.s.run Try.prog (w_FnExactNewJournal.C k) k ())
theorem w_FnExactNewJournal.ok (k : Nat) : CtrOk Try.prog 5 (w_FnExactNewJournal.s.ctr (fun _ => w_FnExactNewJournal.f k)) := sig_ok w_FnExactNewJournal.s (.cons (s_NewJournal.ok k) (.cons (i_NewJournal.ok k) (.cons (w_eqJournal.ok k) (.cons (w_markJournal.ok k) (.cons (w_heldJournal.ok k) .nil))))) (by kernel_rfl) fun _ => opq_eq _
theorem w_FnExactNewJournal.f_eq (k : Nat) : w_FnExactNewJournal.f k =
 (s_NewJournal.f k).bind fun d0 =>
 (i_NewJournal.f k).bind fun d1 =>
 (w_eqJournal.f k d1.fst d1.snd.fst d1.snd.snd.fst d1.snd.snd.snd.fst d1.snd.snd.snd.snd.fst d1.snd.snd.snd.snd.snd.fst d1.snd.snd.snd.snd.snd.snd d0.fst d0.snd.fst d0.snd.snd.fst d0.snd.snd.snd.fst d0.snd.snd.snd.snd.fst d0.snd.snd.snd.snd.snd.fst d0.snd.snd.snd.snd.snd.snd).bind fun d2 =>
 cn (!d2)
 (some false)
 ((w_markJournal.f k d1.fst d1.snd.fst d1.snd.snd.fst d1.snd.snd.snd.fst d1.snd.snd.snd.snd.fst d1.snd.snd.snd.snd.snd.fst d1.snd.snd.snd.snd.snd.snd (1 : Int)).bind fun d3 =>
  (w_heldJournal.f k d3.snd.fst d3.snd.snd.fst d3.snd.snd.snd.fst d1.snd.snd.snd.fst d1.snd.snd.snd.snd.fst d3.snd.snd.snd.snd.fst d3.snd.snd.snd.snd.snd (1 : Int)).bind fun d4 =>
  cn (decide (d4 < (0 : Int)))
  (some false)
  (cn (!decide (d4 = d3.fst))
   (some false)
   ((i_NewJournal.f k).bind fun d5 =>
    (w_eqJournal.f k d5.fst d5.snd.fst d5.snd.snd.fst d5.snd.snd.snd.fst d5.snd.snd.snd.snd.fst d5.snd.snd.snd.snd.snd.fst d5.snd.snd.snd.snd.snd.snd d0.fst d0.snd.fst d0.snd.snd.fst d0.snd.snd.snd.fst d0.snd.snd.snd.snd.fst d0.snd.snd.snd.snd.snd.fst d0.snd.snd.snd.snd.snd.snd).bind fun d6 =>
    cn (!d6)
    (some false)
    ((w_heldJournal.f k d3.snd.fst d3.snd.snd.fst d3.snd.snd.snd.fst d1.snd.snd.snd.fst d1.snd.snd.snd.snd.fst d3.snd.snd.snd.snd.fst d3.snd.snd.snd.snd.snd (1 : Int)).bind fun d7 =>
     cn (decide (d7 < (0 : Int)))
     (some false)
     (cn (!decide (d7 = d3.fst))
      (some false)
      (some true)))))) := (opq_eq _).trans (by kernel_rfl)
end Go.Proofs.Ytcddcnnbhbffmaa
