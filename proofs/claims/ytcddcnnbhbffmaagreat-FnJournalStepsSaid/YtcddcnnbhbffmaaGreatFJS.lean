/- The functions that the statement reaches, as the executor tells them; their contracts. No condition. -/
import Derived.Test.YtcddcnnbhbffmaaGreatE36
import Derived.Test.YtcddcnnbhbffmaaGreatProg
import Derived.Test.YtcddcnnbhbffmaaGreatSFg
namespace Go.Proofs.YtcddcnnbhbffmaaGreat
open Go Go.Proofs.YtcddcnnbhbffmaaGreatE
set_option linter.unusedVariables false
set_option maxRecDepth 100000
noncomputable abbrev Try.prog := Tryz.prog
abbrev s_l1In.s : Sig := ⟨50, [], [.val, .val, .val], [.one (.int .i64), .one (.int .i64), .one (.int .i64)], [.one .bool], [], []⟩
noncomputable def s_l1In.C (k : Nat) : List (Nat × Ctr) := []
noncomputable def s_l1In.f (k : Nat) (n : Int) (lo : Int) (hi : Int) : Option Bool := opq (s_l1In.s.run Try.prog (s_l1In.C k) k (n, lo, hi))
theorem s_l1In.ok (k : Nat) : CtrOk Try.prog 50 (s_l1In.s.ctr (fun x => s_l1In.f k x.1 x.2.1 x.2.2)) := sig_ok s_l1In.s .nil (by kernel_rfl) fun _ => opq_eq _
theorem s_l1In.f_eq (k : Nat) (n : Int) (lo : Int) (hi : Int) : s_l1In.f k n lo hi =
 cn (decide (lo ≤ n))
 (some (decide (n ≤ hi)))
 (some false) := (opq_eq _).trans (by kernel_rfl)
abbrev s_NewDisk.s : Sig := ⟨70, [], [.val], [.one (.int .i64)], [.agg [.own 9 .str, .own 9 .str, .own 4 .bool], .one .bool], [], []⟩
noncomputable def s_NewDisk.C (k : Nat) : List (Nat × Ctr) := [(50, s_l1In.s.ctr (fun x => s_l1In.f k x.1 x.2.1 x.2.2))]
noncomputable def s_NewDisk.f (k : Nat) (sectors : Int) : Option ((List ByteArray × List ByteArray × List Bool) × Bool) := opq (s_NewDisk.s.run Try.prog (s_NewDisk.C k) k sectors)
theorem s_NewDisk.ok (k : Nat) : CtrOk Try.prog 70 (s_NewDisk.s.ctr (fun x => s_NewDisk.f k x)) := sig_ok s_NewDisk.s (.cons (s_l1In.ok k) .nil) (by kernel_rfl) fun _ => opq_eq _
theorem s_NewDisk.f_eq (k : Nat) (sectors : Int) : s_NewDisk.f k sectors =
 (s_l1In.f k sectors (1 : Int) (24 : Int)).bind fun d0 =>
 cn (!d0)
 (some ((([], [], []), false)))
 (both
  (gd (mkOk sectors sectors (Try.prog.bytesOf (9 : Nat)))
   (both
    (gd (mkOk sectors sectors (Try.prog.bytesOf (9 : Nat)))
     (gd (mkOk sectors sectors (Try.prog.bytesOf (4 : Nat)))
      (some (((List.replicate sectors.toNat ByteArray.empty, List.replicate sectors.toNat ByteArray.empty, List.replicate sectors.toNat false), true)))))
    (gd (mkOk sectors sectors (Try.prog.bytesOf (4 : Nat)))
     (gd (mkOk sectors sectors (Try.prog.bytesOf (9 : Nat)))
      (some (((List.replicate sectors.toNat ByteArray.empty, List.replicate sectors.toNat ByteArray.empty, List.replicate sectors.toNat false), true)))))))
  (both
   (gd (mkOk sectors sectors (Try.prog.bytesOf (9 : Nat)))
    (both
     (gd (mkOk sectors sectors (Try.prog.bytesOf (9 : Nat)))
      (gd (mkOk sectors sectors (Try.prog.bytesOf (4 : Nat)))
       (some (((List.replicate sectors.toNat ByteArray.empty, List.replicate sectors.toNat ByteArray.empty, List.replicate sectors.toNat false), true)))))
     (gd (mkOk sectors sectors (Try.prog.bytesOf (4 : Nat)))
      (gd (mkOk sectors sectors (Try.prog.bytesOf (9 : Nat)))
       (some (((List.replicate sectors.toNat ByteArray.empty, List.replicate sectors.toNat ByteArray.empty, List.replicate sectors.toNat false), true)))))))
   (gd (mkOk sectors sectors (Try.prog.bytesOf (4 : Nat)))
    (dup
     (gd (mkOk sectors sectors (Try.prog.bytesOf (9 : Nat)))
      (gd (mkOk sectors sectors (Try.prog.bytesOf (9 : Nat)))
       (some (((List.replicate sectors.toNat ByteArray.empty, List.replicate sectors.toNat ByteArray.empty, List.replicate sectors.toNat false), true))))))))) := (opq_eq _).trans (by kernel_rfl)
abbrev s_l15Half.s : Sig := ⟨66, [], [.val], [.one (.int .i64)], [.one (.int .i64)], [], []⟩
noncomputable def s_l15Half.C (k : Nat) : List (Nat × Ctr) := []
noncomputable def s_l15Half.f (k : Nat) (epoch : Int) : Option Int := opq (s_l15Half.s.run Try.prog (s_l15Half.C k) k epoch)
theorem s_l15Half.ok (k : Nat) : CtrOk Try.prog 66 (s_l15Half.s.ctr (fun x => s_l15Half.f k x)) := sig_ok s_l15Half.s .nil (by kernel_rfl) fun _ => opq_eq _
theorem s_l15Half.f_eq (k : Nat) (epoch : Int) : s_l15Half.f k epoch =
 some (IntKind.i64.wrap ((1 : Int) + IntKind.i64.wrap ((2 : Int) * epoch.tmod (2 : Int)))) := (opq_eq _).trans (by kernel_rfl)
abbrev s_l6Bytes.s : Sig := ⟨103, [], [.val, .val], [.one (.int .i64), .one (.int .i64)], [.one .str], [], [(0, [(0,false),(5,true),(6,false)])]⟩
noncomputable def s_l6Bytes.C (k : Nat) : List (Nat × Ctr) := []
noncomputable def s_l6Bytes.f (k : Nat) (n : Int) (many : Int) : Option ByteArray := opq (s_l6Bytes.s.run Try.prog (s_l6Bytes.C k) k (n, many))
theorem s_l6Bytes.ok (k : Nat) : CtrOk Try.prog 103 (s_l6Bytes.s.ctr (fun x => s_l6Bytes.f k x.1 x.2)) := sig_ok s_l6Bytes.s .nil (by kernel_rfl) fun _ => opq_eq _
noncomputable def s_l6Bytes.l0 (k : Nat) (m : Nat) (n0 : Int) (i6 : Int) (h1 : List Int) : Option ByteArray := s_l6Bytes.s.head Try.prog (s_l6Bytes.C k) k 1 0 [] m [(0, AV.int IntKind.i64 n0), (5, AV.ref 1), (6, AV.int IntKind.i64 i6)] [Root.dead, Root.rows 5 (Kind.int IntKind.u8) h1]
theorem s_l6Bytes.l0_z (k : Nat) (n0 : Int) (i6 : Int) (h1 : List Int) : s_l6Bytes.l0 k 0 n0 i6 h1 = none := by kernel_rfl
theorem s_l6Bytes.l0_s (k : Nat) (m : Nat) (n0 : Int) (i6 : Int) (h1 : List Int) : s_l6Bytes.l0 k (m + 1) n0 i6 h1 =
 cn (decide ((0 : Int) ≤ i6))
 (gd (inb i6 h1.length)
  (s_l6Bytes.l0 k m (n0.fdiv ((2 : Int) ^ (8 : Nat))) (IntKind.i64.wrap (i6 - (1 : Int))) (h1.set i6.toNat (IntKind.u8.wrap n0))))
 (some (strOfNums h1)) := by kernel_rfl
theorem s_l6Bytes.f_eq (k : Nat) (n : Int) (many : Int) : s_l6Bytes.f k n many =
 gd (mkOk many many (Try.prog.bytesOf (5 : Nat)))
 (s_l6Bytes.l0 k k n (IntKind.i64.wrap (many - (1 : Int))) (List.replicate many.toNat (0 : Int))) := (opq_eq _).trans (by kernel_rfl)
abbrev s_l15Bytes.s : Sig := ⟨60, [], [.val], [.one (.row 3 (.int .i64))], [.one (.own 9 .str)], [], [(0, [(3,false),(6,true),(7,false),(8,false)])]⟩
noncomputable def s_l15Bytes.C (k : Nat) : List (Nat × Ctr) := [(103, s_l6Bytes.s.ctr (fun x => s_l6Bytes.f k x.1 x.2))]
noncomputable def s_l15Bytes.f (k : Nat) (values : List Int) : Option (List ByteArray) := opq (s_l15Bytes.s.run Try.prog (s_l15Bytes.C k) k values)
theorem s_l15Bytes.ok (k : Nat) : CtrOk Try.prog 60 (s_l15Bytes.s.ctr (fun x => s_l15Bytes.f k x)) := sig_ok s_l15Bytes.s (.cons (s_l6Bytes.ok k) .nil) (by kernel_rfl) fun _ => opq_eq _
noncomputable def s_l15Bytes.l0 (k : Nat) (m : Nat) (s3 : ByteArray) (t6 : List Int) (t7 : Int) (t8 : Int) : Option (List ByteArray) := s_l15Bytes.s.head Try.prog (s_l15Bytes.C k) k 1 0 [] m [(3, AV.str s3), (6, AV.row 3 (Kind.int IntKind.i64) t6), (7, AV.int IntKind.i64 t7), (8, AV.int IntKind.i64 t8)] [Root.dead]
theorem s_l15Bytes.l0_z (k : Nat) (s3 : ByteArray) (t6 : List Int) (t7 : Int) (t8 : Int) : s_l15Bytes.l0 k 0 s3 t6 t7 t8 = none := by kernel_rfl
theorem s_l15Bytes.l0_s (k : Nat) (m : Nat) (s3 : ByteArray) (t6 : List Int) (t7 : Int) (t8 : Int) : s_l15Bytes.l0 k (m + 1) s3 t6 t7 t8 =
 cn (decide (t8 < t7))
 (gd (inb t8 t6.length)
  ((s_l6Bytes.f k (getAt (0 : Int) t6 t8.toNat) (2 : Int)).bind fun d0 =>
   gd (decide (s3.size + ByteArray.size d0 ≤ (140737488355328 : Nat)))
   (s_l15Bytes.l0 k m (s3 ++ d0) t6 t7 (IntKind.i64.wrap (t8 + (1 : Int))))))
 (gd (true && decide ((6 : Int) ≤ (↑s3.size : Int)))
  (gd (true && decide ((6 : Int) ≤ (↑s3.size : Int)))
   (some ([s3.extract (0 : Nat) (6 : Nat), s3.extract (6 : Nat) s3.size])))) := by kernel_rfl
theorem s_l15Bytes.f_eq (k : Nat) (values : List Int) : s_l15Bytes.f k values =
 s_l15Bytes.l0 k k ByteArray.empty values ((↑values.length : Int)) ((0 : Int)) := (opq_eq _).trans (by kernel_rfl)
abbrev s_l5Byte.s : Sig := ⟨136, [], [.val], [.one (.int .i64)], [.one (.int .i64)], [], [(0, [(0,false),(3,false)])]⟩
noncomputable def s_l5Byte.C (k : Nat) : List (Nat × Ctr) := []
noncomputable def s_l5Byte.f (k : Nat) (sum : Int) : Option Int := opq (s_l5Byte.s.run Try.prog (s_l5Byte.C k) k sum)
theorem s_l5Byte.ok (k : Nat) : CtrOk Try.prog 136 (s_l5Byte.s.ctr (fun x => s_l5Byte.f k x)) := sig_ok s_l5Byte.s .nil (by kernel_rfl) fun _ => opq_eq _
noncomputable def s_l5Byte.l0 (k : Nat) (m : Nat) (sum0 : Int) (k3 : Int) : Option Int := s_l5Byte.s.head Try.prog (s_l5Byte.C k) k 1 0 [] m [(0, AV.int IntKind.i64 sum0), (3, AV.int IntKind.i64 k3)] [Root.dead]
theorem s_l5Byte.l0_z (k : Nat) (sum0 : Int) (k3 : Int) : s_l5Byte.l0 k 0 sum0 k3 = none := by kernel_rfl
theorem s_l5Byte.l0_s (k : Nat) (m : Nat) (sum0 : Int) (k3 : Int) : s_l5Byte.l0 k (m + 1) sum0 k3 =
 cn (decide (k3 < (8 : Int)))
 (cn (decide (IntKind.i64.wrap (↑(BitVec.ofInt (64 : Nat) sum0 &&& BitVec.ofInt (64 : Nat) (1 : Int)).toNat : Int) = (1 : Int)))
  (s_l5Byte.l0 k m (IntKind.i64.wrap (↑(BitVec.ofInt (64 : Nat) (sum0.fdiv ((2 : Int) ^ (1 : Nat))) ^^^ BitVec.ofInt (64 : Nat) (2197175160 : Int)).toNat : Int)) (IntKind.i64.wrap (k3 + (1 : Int))))
  (s_l5Byte.l0 k m (sum0.fdiv ((2 : Int) ^ (1 : Nat))) (IntKind.i64.wrap (k3 + (1 : Int)))))
 (some sum0) := by kernel_rfl
theorem s_l5Byte.f_eq (k : Nat) (sum : Int) : s_l5Byte.f k sum =
 s_l5Byte.l0 k k sum ((0 : Int)) := (opq_eq _).trans (by kernel_rfl)
abbrev s_l5On.s : Sig := ⟨131, [], [.val, .val], [.one (.int .i64), .one .str], [.one (.int .i64)], [], [(0, [(0,false),(1,false),(5,false)])]⟩
noncomputable def s_l5On.C (k : Nat) : List (Nat × Ctr) := [(136, s_l5Byte.s.ctr (fun x => s_l5Byte.f k x))]
noncomputable def s_l5On.f (k : Nat) (sum : Int) (s : ByteArray) : Option Int := opq (s_l5On.s.run Try.prog (s_l5On.C k) k (sum, s))
theorem s_l5On.ok (k : Nat) : CtrOk Try.prog 131 (s_l5On.s.ctr (fun x => s_l5On.f k x.1 x.2)) := sig_ok s_l5On.s (.cons (s_l5Byte.ok k) .nil) (by kernel_rfl) fun _ => opq_eq _
noncomputable def s_l5On.l0 (k : Nat) (m : Nat) (sum0 : Int) (s1 : ByteArray) (i5 : Int) : Option Int := s_l5On.s.head Try.prog (s_l5On.C k) k 1 0 [] m [(0, AV.int IntKind.i64 sum0), (1, AV.str s1), (5, AV.int IntKind.i64 i5)] [Root.dead]
theorem s_l5On.l0_z (k : Nat) (sum0 : Int) (s1 : ByteArray) (i5 : Int) : s_l5On.l0 k 0 sum0 s1 i5 = none := by kernel_rfl
theorem s_l5On.l0_s (k : Nat) (m : Nat) (sum0 : Int) (s1 : ByteArray) (i5 : Int) : s_l5On.l0 k (m + 1) sum0 s1 i5 =
 cn (decide (i5 < (↑s1.size : Int)))
 (gd (inb i5 s1.size)
  ((s_l5Byte.f k (IntKind.i64.wrap (↑(BitVec.ofInt (64 : Nat) sum0 ^^^ BitVec.ofInt (64 : Nat) (IntKind.i64.wrap (↑(s1.data.getD i5.toNat (0 : UInt8)).toNat : Int))).toNat : Int))).bind fun d0 =>
   s_l5On.l0 k m d0 s1 (IntKind.i64.wrap (i5 + (1 : Int)))))
 (some (IntKind.i64.wrap (↑(BitVec.ofInt (64 : Nat) sum0 ^^^ BitVec.ofInt (64 : Nat) (4294967295 : Int)).toNat : Int))) := by kernel_rfl
theorem s_l5On.f_eq (k : Nat) (sum : Int) (s : ByteArray) : s_l5On.f k sum s =
 s_l5On.l0 k k (IntKind.i64.wrap (↑(BitVec.ofInt (64 : Nat) sum ^^^ BitVec.ofInt (64 : Nat) (4294967295 : Int)).toNat : Int)) s ((0 : Int)) := (opq_eq _).trans (by kernel_rfl)
abbrev s_l6Low.s : Sig := ⟨130, [], [.val], [.one (.int .i64)], [.one .str], [], [(0, [(0,false),(3,false),(4,false)])]⟩
noncomputable def s_l6Low.C (k : Nat) : List (Nat × Ctr) := [(103, s_l6Bytes.s.ctr (fun x => s_l6Bytes.f k x.1 x.2))]
noncomputable def s_l6Low.f (k : Nat) (n : Int) : Option ByteArray := opq (s_l6Low.s.run Try.prog (s_l6Low.C k) k n)
theorem s_l6Low.ok (k : Nat) : CtrOk Try.prog 130 (s_l6Low.s.ctr (fun x => s_l6Low.f k x)) := sig_ok s_l6Low.s (.cons (s_l6Bytes.ok k) .nil) (by kernel_rfl) fun _ => opq_eq _
noncomputable def s_l6Low.l0 (k : Nat) (m : Nat) (n0 : Int) (s3 : ByteArray) (k4 : Int) : Option ByteArray := s_l6Low.s.head Try.prog (s_l6Low.C k) k 1 0 [] m [(0, AV.int IntKind.i64 n0), (3, AV.str s3), (4, AV.int IntKind.i64 k4)] [Root.dead]
theorem s_l6Low.l0_z (k : Nat) (n0 : Int) (s3 : ByteArray) (k4 : Int) : s_l6Low.l0 k 0 n0 s3 k4 = none := by kernel_rfl
theorem s_l6Low.l0_s (k : Nat) (m : Nat) (n0 : Int) (s3 : ByteArray) (k4 : Int) : s_l6Low.l0 k (m + 1) n0 s3 k4 =
 cn (decide (k4 < (4 : Int)))
 (gd (decide ((0 : Int) ≤ IntKind.u64.wrap (IntKind.i64.wrap ((8 : Int) * k4))))
  ((s_l6Bytes.f k (n0.fdiv ((2 : Int) ^ min (IntKind.u64.wrap (IntKind.i64.wrap ((8 : Int) * k4))).toNat (64 : Nat))) (1 : Int)).bind fun d0 =>
   gd (decide (s3.size + ByteArray.size d0 ≤ (140737488355328 : Nat)))
   (s_l6Low.l0 k m n0 (s3 ++ d0) (IntKind.i64.wrap (k4 + (1 : Int))))))
 (some s3) := by kernel_rfl
theorem s_l6Low.f_eq (k : Nat) (n : Int) : s_l6Low.f k n =
 s_l6Low.l0 k k n ByteArray.empty ((0 : Int)) := (opq_eq _).trans (by kernel_rfl)
abbrev s_l6Frame.s : Sig := ⟨107, [], [.val], [.agg [.int .i64, .int .i64, .int .i64, .str]], [.one .str], [], []⟩
noncomputable def s_l6Frame.C (k : Nat) : List (Nat × Ctr) := [(103, s_l6Bytes.s.ctr (fun x => s_l6Bytes.f k x.1 x.2)), (130, s_l6Low.s.ctr (fun x => s_l6Low.f k x)), (131, s_l5On.s.ctr (fun x => s_l5On.f k x.1 x.2))]
noncomputable def s_l6Frame.f (k : Nat) (f_Kind : Int) (f_At : Int) (f_Epoch : Int) (f_Body : ByteArray) : Option ByteArray := opq (s_l6Frame.s.run Try.prog (s_l6Frame.C k) k (f_Kind, f_At, f_Epoch, f_Body))
theorem s_l6Frame.ok (k : Nat) : CtrOk Try.prog 107 (s_l6Frame.s.ctr (fun x => s_l6Frame.f k x.1 x.2.1 x.2.2.1 x.2.2.2)) := sig_ok s_l6Frame.s (.cons (s_l6Bytes.ok k) (.cons (s_l6Low.ok k) (.cons (s_l5On.ok k) .nil))) (by kernel_rfl) fun _ => opq_eq _
theorem s_l6Frame.f_eq (k : Nat) (f_Kind : Int) (f_At : Int) (f_Epoch : Int) (f_Body : ByteArray) : s_l6Frame.f k f_Kind f_At f_Epoch f_Body =

 both ((s_l6Bytes.f k f_Kind (1 : Int)).bind fun d0 => both ((s_l6Bytes.f k f_At (2 : Int)).bind fun d1 => gd (decide (ByteArray.size d0 + ByteArray.size d1 ≤ (140737488355328 : Nat))) (both ((s_l6Bytes.f k f_Epoch (2 : Int)).bind fun d2 => gd (decide ((d0 ++ d1).size + ByteArray.size d2 ≤ (140737488355328 : Nat))) (both ((s_l6Bytes.f k (↑f_Body.size : Int) (1 : Int)).bind fun d3 => gd (decide ((d0 ++ d1 ++ d2).size + ByteArray.size d3 ≤ (140737488355328 : Nat))) (gd (decide ((d0 ++ d1 ++ d2 ++ d3).size + f_Body.size ≤ (140737488355328 : Nat))) (gd (mkOk (IntKind.i64.wrap (IntKind.i64.wrap ((16 : Int) - (↑f_Body.size : Int)) + (2 : Int))) (IntKind.i64.wrap (IntKind.i64.wrap ((16 : Int) - (↑f_Body.size : Int)) + (2 : Int))) (Try.prog.bytesOf (5 : Nat))) (gd (decide ((d0 ++ d1 ++ d2 ++ d3 ++ f_Body).size + (strOfNums (List.replicate (IntKind.i64.wrap (IntKind.i64.wrap ((16 : Int) - (↑f_Body.size : Int)) + (2 : Int))).toNat (0 : Int))).size ≤ (140737488355328 : Nat))) ((s_l5On.f k (0 : Int) (d0 ++ d1 ++ d2 ++ d3 ++ f_Body ++ strOfNums (List.replicate (IntKind.i64.wrap (IntKind.i64.wrap ((16 : Int) - (↑f_Body.size : Int)) + (2 : Int))).toNat (0 : Int)))).bind fun d4 => (s_l6Low.f k d4).bind fun d5 => gd (decide ((d0 ++ d1 ++ d2 ++ d3 ++ f_Body ++ strOfNums (List.replicate (IntKind.i64.wrap (IntKind.i64.wrap ((16 : Int) - (↑f_Body.size : Int)) + (2 : Int))).toNat (0 : Int))).size + ByteArray.size d5 ≤ (140737488355328 : Nat))) (some (d0 ++ d1 ++ d2 ++ d3 ++ f_Body ++ strOfNums (List.replicate (IntKind.i64.wrap (IntKind.i64.wrap ((16 : Int) - (↑f_Body.size : Int)) + (2 : Int))).toNat (0 : Int)) ++ d5))))))) (gd (mkOk (IntKind.i64.wrap (IntKind.i64.wrap ((16 : Int) - (↑f_Body.size : Int)) + (2 : Int))) (IntKind.i64.wrap (IntKind.i64.wrap ((16 : Int) - (↑f_Body.size : Int)) + (2 : Int))) (Try.prog.bytesOf (5 : Nat))) (dup ((s_l6Bytes.f k (↑f_Body.size : Int) (1 : Int)).bind fun d3 => gd (decide ((d0 ++ d1 ++ d2).size + ByteArray.size d3 ≤ (140737488355328 : Nat))) (gd (decide ((d0 ++ d1 ++ d2 ++ d3).size + f_Body.size ≤ (140737488355328 : Nat))) (gd (decide ((d0 ++ d1 ++ d2 ++ d3 ++ f_Body).size + (strOfNums (List.replicate (IntKind.i64.wrap (IntKind.i64.wrap ((16 : Int) - (↑f_Body.size : Int)) + (2 : Int))).toNat (0 : Int))).size ≤ (140737488355328 : Nat))) ((s_l5On.f k (0 : Int) (d0 ++ d1 ++ d2 ++ d3 ++ f_Body ++ strOfNums (List.replicate (IntKind.i64.wrap (IntKind.i64.wrap ((16 : Int) - (↑f_Body.size : Int)) + (2 : Int))).toNat (0 : Int)))).bind fun d4 => (s_l6Low.f k d4).bind fun d5 => gd (decide ((d0 ++ d1 ++ d2 ++ d3 ++ f_Body ++ strOfNums (List.replicate (IntKind.i64.wrap (IntKind.i64.wrap ((16 : Int) - (↑f_Body.size : Int)) + (2 : Int))).toNat (0 : Int))).size + ByteArray.size d5 ≤ (140737488355328 : Nat))) (some (d0 ++ d1 ++ d2 ++ d3 ++ f_Body ++ strOfNums (List.replicate (IntKind.i64.wrap (IntKind.i64.wrap ((16 : Int) - (↑f_Body.size : Int)) + (2 : Int))).toNat (0 : Int)) ++ d5)))))))))) (gd (mkOk (IntKind.i64.wrap (IntKind.i64.wrap ((16 : Int) - (↑f_Body.size : Int)) + (2 : Int))) (IntKind.i64.wrap (IntKind.i64.wrap ((16 : Int) - (↑f_Body.size : Int)) + (2 : Int))) (Try.prog.bytesOf (5 : Nat))) (both ((s_l6Bytes.f k f_Epoch (2 : Int)).bind fun d2 => gd (decide ((d0 ++ d1).size + ByteArray.size d2 ≤ (140737488355328 : Nat))) (dup ((s_l6Bytes.f k (↑f_Body.size : Int) (1 : Int)).bind fun d3 => gd (decide ((d0 ++ d1 ++ d2).size + ByteArray.size d3 ≤ (140737488355328 : Nat))) (gd (decide ((d0 ++ d1 ++ d2 ++ d3).size + f_Body.size ≤ (140737488355328 : Nat))) (gd (decide ((d0 ++ d1 ++ d2 ++ d3 ++ f_Body).size + (strOfNums (List.replicate (IntKind.i64.wrap (IntKind.i64.wrap ((16 : Int) - (↑f_Body.size : Int)) + (2 : Int))).toNat (0 : Int))).size ≤ (140737488355328 : Nat))) ((s_l5On.f k (0 : Int) (d0 ++ d1 ++ d2 ++ d3 ++ f_Body ++ strOfNums (List.replicate (IntKind.i64.wrap (IntKind.i64.wrap ((16 : Int) - (↑f_Body.size : Int)) + (2 : Int))).toNat (0 : Int)))).bind fun d4 => (s_l6Low.f k d4).bind fun d5 => gd (decide ((d0 ++ d1 ++ d2 ++ d3 ++ f_Body ++ strOfNums (List.replicate (IntKind.i64.wrap (IntKind.i64.wrap ((16 : Int) - (↑f_Body.size : Int)) + (2 : Int))).toNat (0 : Int))).size + ByteArray.size d5 ≤ (140737488355328 : Nat))) (some (d0 ++ d1 ++ d2 ++ d3 ++ f_Body ++ strOfNums (List.replicate (IntKind.i64.wrap (IntKind.i64.wrap ((16 : Int) - (↑f_Body.size : Int)) + (2 : Int))).toNat (0 : Int)) ++ d5)))))))) ((s_l6Bytes.f k f_Epoch (2 : Int)).bind fun d2 => gd (decide ((d0 ++ d1).size + ByteArray.size d2 ≤ (140737488355328 : Nat))) ((s_l6Bytes.f k (↑f_Body.size : Int) (1 : Int)).bind fun d3 => gd (decide ((d0 ++ d1 ++ d2).size + ByteArray.size d3 ≤ (140737488355328 : Nat))) (gd (decide ((d0 ++ d1 ++ d2 ++ d3).size + f_Body.size ≤ (140737488355328 : Nat))) (gd (decide ((d0 ++ d1 ++ d2 ++ d3 ++ f_Body).size + (strOfNums (List.replicate (IntKind.i64.wrap (IntKind.i64.wrap ((16 : Int) - (↑f_Body.size : Int)) + (2 : Int))).toNat (0 : Int))).size ≤ (140737488355328 : Nat))) ((s_l5On.f k (0 : Int) (d0 ++ d1 ++ d2 ++ d3 ++ f_Body ++ strOfNums (List.replicate (IntKind.i64.wrap (IntKind.i64.wrap ((16 : Int) - (↑f_Body.size : Int)) + (2 : Int))).toNat (0 : Int)))).bind fun d4 => (s_l6Low.f k d4).bind fun d5 => gd (decide ((d0 ++ d1 ++ d2 ++ d3 ++ f_Body ++ strOfNums (List.replicate (IntKind.i64.wrap (IntKind.i64.wrap ((16 : Int) - (↑f_Body.size : Int)) + (2 : Int))).toNat (0 : Int))).size + ByteArray.size d5 ≤ (140737488355328 : Nat))) (some (d0 ++ d1 ++ d2 ++ d3 ++ f_Body ++ strOfNums (List.replicate (IntKind.i64.wrap (IntKind.i64.wrap ((16 : Int) - (↑f_Body.size : Int)) + (2 : Int))).toNat (0 : Int)) ++ d5))))))))))) (gd (mkOk (IntKind.i64.wrap (IntKind.i64.wrap ((16 : Int) - (↑f_Body.size : Int)) + (2 : Int))) (IntKind.i64.wrap (IntKind.i64.wrap ((16 : Int) - (↑f_Body.size : Int)) + (2 : Int))) (Try.prog.bytesOf (5 : Nat))) (both ((s_l6Bytes.f k f_At (2 : Int)).bind fun d1 => gd (decide (ByteArray.size d0 + ByteArray.size d1 ≤ (140737488355328 : Nat))) (both ((s_l6Bytes.f k f_Epoch (2 : Int)).bind fun d2 => gd (decide ((d0 ++ d1).size + ByteArray.size d2 ≤ (140737488355328 : Nat))) (dup ((s_l6Bytes.f k (↑f_Body.size : Int) (1 : Int)).bind fun d3 => gd (decide ((d0 ++ d1 ++ d2).size + ByteArray.size d3 ≤ (140737488355328 : Nat))) (gd (decide ((d0 ++ d1 ++ d2 ++ d3).size + f_Body.size ≤ (140737488355328 : Nat))) (gd (decide ((d0 ++ d1 ++ d2 ++ d3 ++ f_Body).size + (strOfNums (List.replicate (IntKind.i64.wrap (IntKind.i64.wrap ((16 : Int) - (↑f_Body.size : Int)) + (2 : Int))).toNat (0 : Int))).size ≤ (140737488355328 : Nat))) ((s_l5On.f k (0 : Int) (d0 ++ d1 ++ d2 ++ d3 ++ f_Body ++ strOfNums (List.replicate (IntKind.i64.wrap (IntKind.i64.wrap ((16 : Int) - (↑f_Body.size : Int)) + (2 : Int))).toNat (0 : Int)))).bind fun d4 => (s_l6Low.f k d4).bind fun d5 => gd (decide ((d0 ++ d1 ++ d2 ++ d3 ++ f_Body ++ strOfNums (List.replicate (IntKind.i64.wrap (IntKind.i64.wrap ((16 : Int) - (↑f_Body.size : Int)) + (2 : Int))).toNat (0 : Int))).size + ByteArray.size d5 ≤ (140737488355328 : Nat))) (some (d0 ++ d1 ++ d2 ++ d3 ++ f_Body ++ strOfNums (List.replicate (IntKind.i64.wrap (IntKind.i64.wrap ((16 : Int) - (↑f_Body.size : Int)) + (2 : Int))).toNat (0 : Int)) ++ d5)))))))) ((s_l6Bytes.f k f_Epoch (2 : Int)).bind fun d2 => gd (decide ((d0 ++ d1).size + ByteArray.size d2 ≤ (140737488355328 : Nat))) ((s_l6Bytes.f k (↑f_Body.size : Int) (1 : Int)).bind fun d3 => gd (decide ((d0 ++ d1 ++ d2).size + ByteArray.size d3 ≤ (140737488355328 : Nat))) (gd (decide ((d0 ++ d1 ++ d2 ++ d3).size + f_Body.size ≤ (140737488355328 : Nat))) (gd (decide ((d0 ++ d1 ++ d2 ++ d3 ++ f_Body).size + (strOfNums (List.replicate (IntKind.i64.wrap (IntKind.i64.wrap ((16 : Int) - (↑f_Body.size : Int)) + (2 : Int))).toNat (0 : Int))).size ≤ (140737488355328 : Nat))) ((s_l5On.f k (0 : Int) (d0 ++ d1 ++ d2 ++ d3 ++ f_Body ++ strOfNums (List.replicate (IntKind.i64.wrap (IntKind.i64.wrap ((16 : Int) - (↑f_Body.size : Int)) + (2 : Int))).toNat (0 : Int)))).bind fun d4 => (s_l6Low.f k d4).bind fun d5 => gd (decide ((d0 ++ d1 ++ d2 ++ d3 ++ f_Body ++ strOfNums (List.replicate (IntKind.i64.wrap (IntKind.i64.wrap ((16 : Int) - (↑f_Body.size : Int)) + (2 : Int))).toNat (0 : Int))).size + ByteArray.size d5 ≤ (140737488355328 : Nat))) (some (d0 ++ d1 ++ d2 ++ d3 ++ f_Body ++ strOfNums (List.replicate (IntKind.i64.wrap (IntKind.i64.wrap ((16 : Int) - (↑f_Body.size : Int)) + (2 : Int))).toNat (0 : Int)) ++ d5))))))))) ((s_l6Bytes.f k f_At (2 : Int)).bind fun d1 => gd (decide (ByteArray.size d0 + ByteArray.size d1 ≤ (140737488355328 : Nat))) ((s_l6Bytes.f k f_Epoch (2 : Int)).bind fun d2 => gd (decide ((d0 ++ d1).size + ByteArray.size d2 ≤ (140737488355328 : Nat))) ((s_l6Bytes.f k (↑f_Body.size : Int) (1 : Int)).bind fun d3 => gd (decide ((d0 ++ d1 ++ d2).size + ByteArray.size d3 ≤ (140737488355328 : Nat))) (gd (decide ((d0 ++ d1 ++ d2 ++ d3).size + f_Body.size ≤ (140737488355328 : Nat))) (gd (decide ((d0 ++ d1 ++ d2 ++ d3 ++ f_Body).size + (strOfNums (List.replicate (IntKind.i64.wrap (IntKind.i64.wrap ((16 : Int) - (↑f_Body.size : Int)) + (2 : Int))).toNat (0 : Int))).size ≤ (140737488355328 : Nat))) ((s_l5On.f k (0 : Int) (d0 ++ d1 ++ d2 ++ d3 ++ f_Body ++ strOfNums (List.replicate (IntKind.i64.wrap (IntKind.i64.wrap ((16 : Int) - (↑f_Body.size : Int)) + (2 : Int))).toNat (0 : Int)))).bind fun d4 => (s_l6Low.f k d4).bind fun d5 => gd (decide ((d0 ++ d1 ++ d2 ++ d3 ++ f_Body ++ strOfNums (List.replicate (IntKind.i64.wrap (IntKind.i64.wrap ((16 : Int) - (↑f_Body.size : Int)) + (2 : Int))).toNat (0 : Int))).size + ByteArray.size d5 ≤ (140737488355328 : Nat))) (some (d0 ++ d1 ++ d2 ++ d3 ++ f_Body ++ strOfNums (List.replicate (IntKind.i64.wrap (IntKind.i64.wrap ((16 : Int) - (↑f_Body.size : Int)) + (2 : Int))).toNat (0 : Int)) ++ d5))))))))))) (gd (mkOk (IntKind.i64.wrap (IntKind.i64.wrap ((16 : Int) - (↑f_Body.size : Int)) + (2 : Int))) (IntKind.i64.wrap (IntKind.i64.wrap ((16 : Int) - (↑f_Body.size : Int)) + (2 : Int))) (Try.prog.bytesOf (5 : Nat))) (both ((s_l6Bytes.f k f_Kind (1 : Int)).bind fun d0 => both ((s_l6Bytes.f k f_At (2 : Int)).bind fun d1 => gd (decide (ByteArray.size d0 + ByteArray.size d1 ≤ (140737488355328 : Nat))) (both ((s_l6Bytes.f k f_Epoch (2 : Int)).bind fun d2 => gd (decide ((d0 ++ d1).size + ByteArray.size d2 ≤ (140737488355328 : Nat))) (dup ((s_l6Bytes.f k (↑f_Body.size : Int) (1 : Int)).bind fun d3 => gd (decide ((d0 ++ d1 ++ d2).size + ByteArray.size d3 ≤ (140737488355328 : Nat))) (gd (decide ((d0 ++ d1 ++ d2 ++ d3).size + f_Body.size ≤ (140737488355328 : Nat))) (gd (decide ((d0 ++ d1 ++ d2 ++ d3 ++ f_Body).size + (strOfNums (List.replicate (IntKind.i64.wrap (IntKind.i64.wrap ((16 : Int) - (↑f_Body.size : Int)) + (2 : Int))).toNat (0 : Int))).size ≤ (140737488355328 : Nat))) ((s_l5On.f k (0 : Int) (d0 ++ d1 ++ d2 ++ d3 ++ f_Body ++ strOfNums (List.replicate (IntKind.i64.wrap (IntKind.i64.wrap ((16 : Int) - (↑f_Body.size : Int)) + (2 : Int))).toNat (0 : Int)))).bind fun d4 => (s_l6Low.f k d4).bind fun d5 => gd (decide ((d0 ++ d1 ++ d2 ++ d3 ++ f_Body ++ strOfNums (List.replicate (IntKind.i64.wrap (IntKind.i64.wrap ((16 : Int) - (↑f_Body.size : Int)) + (2 : Int))).toNat (0 : Int))).size + ByteArray.size d5 ≤ (140737488355328 : Nat))) (some (d0 ++ d1 ++ d2 ++ d3 ++ f_Body ++ strOfNums (List.replicate (IntKind.i64.wrap (IntKind.i64.wrap ((16 : Int) - (↑f_Body.size : Int)) + (2 : Int))).toNat (0 : Int)) ++ d5)))))))) ((s_l6Bytes.f k f_Epoch (2 : Int)).bind fun d2 => gd (decide ((d0 ++ d1).size + ByteArray.size d2 ≤ (140737488355328 : Nat))) ((s_l6Bytes.f k (↑f_Body.size : Int) (1 : Int)).bind fun d3 => gd (decide ((d0 ++ d1 ++ d2).size + ByteArray.size d3 ≤ (140737488355328 : Nat))) (gd (decide ((d0 ++ d1 ++ d2 ++ d3).size + f_Body.size ≤ (140737488355328 : Nat))) (gd (decide ((d0 ++ d1 ++ d2 ++ d3 ++ f_Body).size + (strOfNums (List.replicate (IntKind.i64.wrap (IntKind.i64.wrap ((16 : Int) - (↑f_Body.size : Int)) + (2 : Int))).toNat (0 : Int))).size ≤ (140737488355328 : Nat))) ((s_l5On.f k (0 : Int) (d0 ++ d1 ++ d2 ++ d3 ++ f_Body ++ strOfNums (List.replicate (IntKind.i64.wrap (IntKind.i64.wrap ((16 : Int) - (↑f_Body.size : Int)) + (2 : Int))).toNat (0 : Int)))).bind fun d4 => (s_l6Low.f k d4).bind fun d5 => gd (decide ((d0 ++ d1 ++ d2 ++ d3 ++ f_Body ++ strOfNums (List.replicate (IntKind.i64.wrap (IntKind.i64.wrap ((16 : Int) - (↑f_Body.size : Int)) + (2 : Int))).toNat (0 : Int))).size + ByteArray.size d5 ≤ (140737488355328 : Nat))) (some (d0 ++ d1 ++ d2 ++ d3 ++ f_Body ++ strOfNums (List.replicate (IntKind.i64.wrap (IntKind.i64.wrap ((16 : Int) - (↑f_Body.size : Int)) + (2 : Int))).toNat (0 : Int)) ++ d5))))))))) ((s_l6Bytes.f k f_At (2 : Int)).bind fun d1 => gd (decide (ByteArray.size d0 + ByteArray.size d1 ≤ (140737488355328 : Nat))) ((s_l6Bytes.f k f_Epoch (2 : Int)).bind fun d2 => gd (decide ((d0 ++ d1).size + ByteArray.size d2 ≤ (140737488355328 : Nat))) ((s_l6Bytes.f k (↑f_Body.size : Int) (1 : Int)).bind fun d3 => gd (decide ((d0 ++ d1 ++ d2).size + ByteArray.size d3 ≤ (140737488355328 : Nat))) (gd (decide ((d0 ++ d1 ++ d2 ++ d3).size + f_Body.size ≤ (140737488355328 : Nat))) (gd (decide ((d0 ++ d1 ++ d2 ++ d3 ++ f_Body).size + (strOfNums (List.replicate (IntKind.i64.wrap (IntKind.i64.wrap ((16 : Int) - (↑f_Body.size : Int)) + (2 : Int))).toNat (0 : Int))).size ≤ (140737488355328 : Nat))) ((s_l5On.f k (0 : Int) (d0 ++ d1 ++ d2 ++ d3 ++ f_Body ++ strOfNums (List.replicate (IntKind.i64.wrap (IntKind.i64.wrap ((16 : Int) - (↑f_Body.size : Int)) + (2 : Int))).toNat (0 : Int)))).bind fun d4 => (s_l6Low.f k d4).bind fun d5 => gd (decide ((d0 ++ d1 ++ d2 ++ d3 ++ f_Body ++ strOfNums (List.replicate (IntKind.i64.wrap (IntKind.i64.wrap ((16 : Int) - (↑f_Body.size : Int)) + (2 : Int))).toNat (0 : Int))).size + ByteArray.size d5 ≤ (140737488355328 : Nat))) (some (d0 ++ d1 ++ d2 ++ d3 ++ f_Body ++ strOfNums (List.replicate (IntKind.i64.wrap (IntKind.i64.wrap ((16 : Int) - (↑f_Body.size : Int)) + (2 : Int))).toNat (0 : Int)) ++ d5))))))))) ((s_l6Bytes.f k f_Kind (1 : Int)).bind fun d0 => (s_l6Bytes.f k f_At (2 : Int)).bind fun d1 => gd (decide (ByteArray.size d0 + ByteArray.size d1 ≤ (140737488355328 : Nat))) ((s_l6Bytes.f k f_Epoch (2 : Int)).bind fun d2 => gd (decide ((d0 ++ d1).size + ByteArray.size d2 ≤ (140737488355328 : Nat))) ((s_l6Bytes.f k (↑f_Body.size : Int) (1 : Int)).bind fun d3 => gd (decide ((d0 ++ d1 ++ d2).size + ByteArray.size d3 ≤ (140737488355328 : Nat))) (gd (decide ((d0 ++ d1 ++ d2 ++ d3).size + f_Body.size ≤ (140737488355328 : Nat))) (gd (decide ((d0 ++ d1 ++ d2 ++ d3 ++ f_Body).size + (strOfNums (List.replicate (IntKind.i64.wrap (IntKind.i64.wrap ((16 : Int) - (↑f_Body.size : Int)) + (2 : Int))).toNat (0 : Int))).size ≤ (140737488355328 : Nat))) ((s_l5On.f k (0 : Int) (d0 ++ d1 ++ d2 ++ d3 ++ f_Body ++ strOfNums (List.replicate (IntKind.i64.wrap (IntKind.i64.wrap ((16 : Int) - (↑f_Body.size : Int)) + (2 : Int))).toNat (0 : Int)))).bind fun d4 => (s_l6Low.f k d4).bind fun d5 => gd (decide ((d0 ++ d1 ++ d2 ++ d3 ++ f_Body ++ strOfNums (List.replicate (IntKind.i64.wrap (IntKind.i64.wrap ((16 : Int) - (↑f_Body.size : Int)) + (2 : Int))).toNat (0 : Int))).size + ByteArray.size d5 ≤ (140737488355328 : Nat))) (some (d0 ++ d1 ++ d2 ++ d3 ++ f_Body ++ strOfNums (List.replicate (IntKind.i64.wrap (IntKind.i64.wrap ((16 : Int) - (↑f_Body.size : Int)) + (2 : Int))).toNat (0 : Int)) ++ d5)))))))))) := (opq_eq _).trans (by kernel_rfl)
abbrev s_l7Held.s : Sig := ⟨73, [], [.val], [.agg [.row 9 .str, .row 9 .str, .row 4 .bool]], [.one (.own 3 (.int .i64))], [], [(0, [(3,true),(7,true),(8,false),(9,false)])]⟩
noncomputable def s_l7Held.C (k : Nat) : List (Nat × Ctr) := []
noncomputable def s_l7Held.f (k : Nat) (d_Plate : List ByteArray) (d_Held : List ByteArray) (d_Bad : List Bool) : Option (List Int) := opq (s_l7Held.s.run Try.prog (s_l7Held.C k) k (d_Plate, d_Held, d_Bad))
theorem s_l7Held.ok (k : Nat) : CtrOk Try.prog 73 (s_l7Held.s.ctr (fun x => s_l7Held.f k x.1 x.2.1 x.2.2)) := sig_ok s_l7Held.s .nil (by kernel_rfl) fun _ => opq_eq _
noncomputable def s_l7Held.l0 (k : Nat) (m : Nat) (t7 : List ByteArray) (t8 : Int) (t9 : Int) (h1 : List Int) : Option (List Int) := s_l7Held.s.head Try.prog (s_l7Held.C k) k 1 0 [] m [(3, AV.ref 1), (7, AV.row 9 Kind.str t7), (8, AV.int IntKind.i64 t8), (9, AV.int IntKind.i64 t9)] [Root.dead, Root.rows 3 (Kind.int IntKind.i64) h1]
theorem s_l7Held.l0_z (k : Nat) (t7 : List ByteArray) (t8 : Int) (t9 : Int) (h1 : List Int) : s_l7Held.l0 k 0 t7 t8 t9 h1 = none := by kernel_rfl
theorem s_l7Held.l0_s (k : Nat) (m : Nat) (t7 : List ByteArray) (t8 : Int) (t9 : Int) (h1 : List Int) : s_l7Held.l0 k (m + 1) t7 t8 t9 h1 =
 cn (decide (t9 < t8))
 (gd (inb t9 t7.length)
  (cn (!decide ((getAt ByteArray.empty t7 t9.toNat).toList = ByteArray.empty.toList))
   (gd (appOk (h1.length + [t9].length) (Try.prog.bytesOf (3 : Nat)))
    (s_l7Held.l0 k m t7 t8 (IntKind.i64.wrap (t9 + (1 : Int))) (h1 ++ [t9])))
   (s_l7Held.l0 k m t7 t8 (IntKind.i64.wrap (t9 + (1 : Int))) h1)))
 (some h1) := by kernel_rfl
theorem s_l7Held.f_eq (k : Nat) (d_Plate : List ByteArray) (d_Held : List ByteArray) (d_Bad : List Bool) : s_l7Held.f k d_Plate d_Held d_Bad =
 s_l7Held.l0 k k d_Held ((↑d_Held.length : Int)) ((0 : Int)) ([]) := (opq_eq _).trans (by kernel_rfl)
abbrev s_l1Has.s : Sig := ⟨100, [], [.val, .val], [.one (.row 3 (.int .i64)), .one (.int .i64)], [.one .bool], [], [(0, [(1,false),(7,true),(8,false),(9,false)])]⟩
noncomputable def s_l1Has.C (k : Nat) : List (Nat × Ctr) := []
noncomputable def s_l1Has.f (k : Nat) (l : List Int) (n : Int) : Option Bool := opq (s_l1Has.s.run Try.prog (s_l1Has.C k) k (l, n))
theorem s_l1Has.ok (k : Nat) : CtrOk Try.prog 100 (s_l1Has.s.ctr (fun x => s_l1Has.f k x.1 x.2)) := sig_ok s_l1Has.s .nil (by kernel_rfl) fun _ => opq_eq _
noncomputable def s_l1Has.l0 (k : Nat) (m : Nat) (n1 : Int) (t7 : List Int) (t8 : Int) (t9 : Int) : Option Bool := s_l1Has.s.head Try.prog (s_l1Has.C k) k 1 0 [] m [(1, AV.int IntKind.i64 n1), (7, AV.row 3 (Kind.int IntKind.i64) t7), (8, AV.int IntKind.i64 t8), (9, AV.int IntKind.i64 t9)] [Root.dead]
theorem s_l1Has.l0_z (k : Nat) (n1 : Int) (t7 : List Int) (t8 : Int) (t9 : Int) : s_l1Has.l0 k 0 n1 t7 t8 t9 = none := by kernel_rfl
theorem s_l1Has.l0_s (k : Nat) (m : Nat) (n1 : Int) (t7 : List Int) (t8 : Int) (t9 : Int) : s_l1Has.l0 k (m + 1) n1 t7 t8 t9 =
 cn (decide (t9 < t8))
 (gd (inb t9 t7.length)
  (cn (decide (getAt (0 : Int) t7 t9.toNat = n1))
   (some true)
   (s_l1Has.l0 k m n1 t7 t8 (IntKind.i64.wrap (t9 + (1 : Int))))))
 (some false) := by kernel_rfl
theorem s_l1Has.f_eq (k : Nat) (l : List Int) (n : Int) : s_l1Has.f k l n =
 s_l1Has.l0 k k n l ((↑l.length : Int)) ((0 : Int)) := (opq_eq _).trans (by kernel_rfl)
abbrev s_l7Kept.s : Sig := ⟨91, [], [.val, .val], [.agg [.row 9 .str, .row 9 .str, .row 4 .bool], .one (.row 3 (.int .i64))], [.one .bool], [], [(0, [(1,false),(5,true),(10,true),(11,false),(12,false)])]⟩
noncomputable def s_l7Kept.C (k : Nat) : List (Nat × Ctr) := [(100, s_l1Has.s.ctr (fun x => s_l1Has.f k x.1 x.2)), (73, s_l7Held.s.ctr (fun x => s_l7Held.f k x.1 x.2.1 x.2.2))]
noncomputable def s_l7Kept.f (k : Nat) (d_Plate : List ByteArray) (d_Held : List ByteArray) (d_Bad : List Bool) (kept : List Int) : Option Bool := opq (s_l7Kept.s.run Try.prog (s_l7Kept.C k) k ((d_Plate, d_Held, d_Bad), kept))
theorem s_l7Kept.ok (k : Nat) : CtrOk Try.prog 91 (s_l7Kept.s.ctr (fun x => s_l7Kept.f k x.1.1 x.1.2.1 x.1.2.2 x.2)) := sig_ok s_l7Kept.s (.cons (s_l1Has.ok k) (.cons (s_l7Held.ok k) .nil)) (by kernel_rfl) fun _ => opq_eq _
noncomputable def s_l7Kept.l0 (k : Nat) (m : Nat) (kept1 : List Int) (t10 : List Int) (t11 : Int) (t12 : Int) (h1 : List Int) : Option Bool := s_l7Kept.s.head Try.prog (s_l7Kept.C k) k 1 0 [] m [(1, AV.row 3 (Kind.int IntKind.i64) kept1), (5, AV.ref 1), (10, AV.row 3 (Kind.int IntKind.i64) t10), (11, AV.int IntKind.i64 t11), (12, AV.int IntKind.i64 t12)] [Root.dead, Root.rows 3 (Kind.int IntKind.i64) h1]
theorem s_l7Kept.l0_z (k : Nat) (kept1 : List Int) (t10 : List Int) (t11 : Int) (t12 : Int) (h1 : List Int) : s_l7Kept.l0 k 0 kept1 t10 t11 t12 h1 = none := by kernel_rfl
theorem s_l7Kept.l0_s (k : Nat) (m : Nat) (kept1 : List Int) (t10 : List Int) (t11 : Int) (t12 : Int) (h1 : List Int) : s_l7Kept.l0 k (m + 1) kept1 t10 t11 t12 h1 =
 cn (decide (t12 < t11))
 (gd (inb t12 t10.length)
  ((s_l1Has.f k h1 (getAt (0 : Int) t10 t12.toNat)).bind fun d1 =>
   cn (!d1)
   (some false)
   (cn (decide ((0 : Int) < t12))
    (gd (inb (IntKind.i64.wrap (t12 - (1 : Int))) kept1.length)
     (cn (decide (getAt (0 : Int) t10 t12.toNat ≤ getAt (0 : Int) kept1 (IntKind.i64.wrap (t12 - (1 : Int))).toNat))
      (some false)
      (s_l7Kept.l0 k m kept1 t10 t11 (IntKind.i64.wrap (t12 + (1 : Int))) h1)))
    (s_l7Kept.l0 k m kept1 t10 t11 (IntKind.i64.wrap (t12 + (1 : Int))) h1))))
 (some true) := by kernel_rfl
theorem s_l7Kept.f_eq (k : Nat) (d_Plate : List ByteArray) (d_Held : List ByteArray) (d_Bad : List Bool) (kept : List Int) : s_l7Kept.f k d_Plate d_Held d_Bad kept =
 (s_l7Held.f k d_Plate d_Held d_Bad).bind fun d0 =>
 s_l7Kept.l0 k k kept kept ((↑kept.length : Int)) ((0 : Int)) d0 := (opq_eq _).trans (by kernel_rfl)
abbrev s_l7Crash.s : Sig := ⟨52, [.agg 3, .one], [.chg, .chg, .chg, .val], [.one (.row 9 .str), .one (.row 9 .str), .one (.row 4 .bool), .one (.row 3 (.int .i64))], [.agg [.arg 1, .arg 2, .arg 3]], [.rows 9 .str, .rows 9 .str, .rows 4 .bool], [(0, [(1,false),(2,false),(4,false),(8,true),(9,false),(10,false)])]⟩
noncomputable def s_l7Crash.C (k : Nat) : List (Nat × Ctr) := [(100, s_l1Has.s.ctr (fun x => s_l1Has.f k x.1 x.2))]
noncomputable def s_l7Crash.f (k : Nat) (d_Plate : List ByteArray) (d_Held : List ByteArray) (d_Bad : List Bool) (kept : List Int) : Option ((Unit × Unit × Unit) × List ByteArray × List ByteArray × List Bool) := opq (s_l7Crash.s.run Try.prog (s_l7Crash.C k) k (d_Plate, d_Held, d_Bad, kept))
theorem s_l7Crash.ok (k : Nat) : CtrOk Try.prog 52 (s_l7Crash.s.ctr (fun x => s_l7Crash.f k x.1 x.2.1 x.2.2.1 x.2.2.2)) := sig_ok s_l7Crash.s (.cons (s_l1Has.ok k) .nil) (by kernel_rfl) fun _ => opq_eq _
noncomputable def s_l7Crash.l0 (k : Nat) (m : Nat) (kept1 : List Int) (t9 : Int) (t10 : Int) (h1 : List ByteArray) (h2 : List ByteArray) (h3 : List Bool) : Option ((Unit × Unit × Unit) × List ByteArray × List ByteArray × List Bool) := s_l7Crash.s.head Try.prog (s_l7Crash.C k) k 4 0 [] m [(1, AV.row 3 (Kind.int IntKind.i64) kept1), (2, AV.ptr 4 0 0), (4, AV.ptr 5 0 0), (8, AV.ref 2), (9, AV.int IntKind.i64 t9), (10, AV.int IntKind.i64 t10)] [Root.dead, Root.rows 9 Kind.str h1, Root.rows 9 Kind.str h2, Root.rows 4 Kind.bool h3, Root.box 26 [AV.ref 1, AV.ref 2, AV.ref 3], Root.box 26 [AV.nil 9 Kind.str, AV.nil 9 Kind.str, AV.nil 4 Kind.bool]]
theorem s_l7Crash.l0_z (k : Nat) (kept1 : List Int) (t9 : Int) (t10 : Int) (h1 : List ByteArray) (h2 : List ByteArray) (h3 : List Bool) : s_l7Crash.l0 k 0 kept1 t9 t10 h1 h2 h3 = none := by kernel_rfl
theorem s_l7Crash.l0_s (k : Nat) (m : Nat) (kept1 : List Int) (t9 : Int) (t10 : Int) (h1 : List ByteArray) (h2 : List ByteArray) (h3 : List Bool) : s_l7Crash.l0 k (m + 1) kept1 t9 t10 h1 h2 h3 =
 cn (decide (t10 < t9))
 (gd (inb t10 h2.length)
  ((s_l1Has.f k kept1 t10).bind fun d0 =>
   cn d0
   (gd (inb t10 h1.length)
    (gd (inb t10 h2.length)
     (s_l7Crash.l0 k m kept1 t9 (IntKind.i64.wrap (t10 + (1 : Int))) (h1.set t10.toNat (getAt ByteArray.empty h2 t10.toNat)) (h2.set t10.toNat ByteArray.empty) h3)))
   (gd (inb t10 h2.length)
    (s_l7Crash.l0 k m kept1 t9 (IntKind.i64.wrap (t10 + (1 : Int))) h1 (h2.set t10.toNat ByteArray.empty) h3))))
 (some ((((), (), ()), h1, h2, h3))) := by kernel_rfl
theorem s_l7Crash.f_eq (k : Nat) (d_Plate : List ByteArray) (d_Held : List ByteArray) (d_Bad : List Bool) (kept : List Int) : s_l7Crash.f k d_Plate d_Held d_Bad kept =
 s_l7Crash.l0 k k kept ((↑d_Held.length : Int)) ((0 : Int)) d_Plate d_Held d_Bad := (opq_eq _).trans (by kernel_rfl)
abbrev s_l7There.s : Sig := ⟨128, [], [.val, .val], [.agg [.row 9 .str, .row 9 .str, .row 4 .bool], .one (.int .i64)], [.one .bool], [], []⟩
noncomputable def s_l7There.C (k : Nat) : List (Nat × Ctr) := []
noncomputable def s_l7There.f (k : Nat) (d_Plate : List ByteArray) (d_Held : List ByteArray) (d_Bad : List Bool) (at_ : Int) : Option Bool := opq (s_l7There.s.run Try.prog (s_l7There.C k) k ((d_Plate, d_Held, d_Bad), at_))
theorem s_l7There.ok (k : Nat) : CtrOk Try.prog 128 (s_l7There.s.ctr (fun x => s_l7There.f k x.1.1 x.1.2.1 x.1.2.2 x.2)) := sig_ok s_l7There.s .nil (by kernel_rfl) fun _ => opq_eq _
theorem s_l7There.f_eq (k : Nat) (d_Plate : List ByteArray) (d_Held : List ByteArray) (d_Bad : List Bool) (at_ : Int) : s_l7There.f k d_Plate d_Held d_Bad at_ =
 cn (decide ((0 : Int) ≤ at_))
 (some (decide (at_ < (↑d_Plate.length : Int))))
 (some false) := (opq_eq _).trans (by kernel_rfl)
abbrev s_l7Rot.s : Sig := ⟨129, [], [.val, .val], [.one .str, .one .str], [.one .str], [], [(0, [(1,false),(5,true),(6,false)])]⟩
noncomputable def s_l7Rot.C (k : Nat) : List (Nat × Ctr) := []
noncomputable def s_l7Rot.f (k : Nat) (s : ByteArray) (mask : ByteArray) : Option ByteArray := opq (s_l7Rot.s.run Try.prog (s_l7Rot.C k) k (s, mask))
theorem s_l7Rot.ok (k : Nat) : CtrOk Try.prog 129 (s_l7Rot.s.ctr (fun x => s_l7Rot.f k x.1 x.2)) := sig_ok s_l7Rot.s .nil (by kernel_rfl) fun _ => opq_eq _
noncomputable def s_l7Rot.l0 (k : Nat) (m : Nat) (mask1 : ByteArray) (i6 : Int) (h1 : List Int) : Option ByteArray := s_l7Rot.s.head Try.prog (s_l7Rot.C k) k 1 0 [] m [(1, AV.str mask1), (5, AV.ref 1), (6, AV.int IntKind.i64 i6)] [Root.dead, Root.rows 5 (Kind.int IntKind.u8) h1]
theorem s_l7Rot.l0_z (k : Nat) (mask1 : ByteArray) (i6 : Int) (h1 : List Int) : s_l7Rot.l0 k 0 mask1 i6 h1 = none := by kernel_rfl
theorem s_l7Rot.l0_s (k : Nat) (m : Nat) (mask1 : ByteArray) (i6 : Int) (h1 : List Int) : s_l7Rot.l0 k (m + 1) mask1 i6 h1 =
 cn (decide (i6 < (↑mask1.size : Int)))
 (gd (inb i6 h1.length)
  (gd (inb i6 mask1.size)
   (gd (inb i6 h1.length)
    (s_l7Rot.l0 k m mask1 (IntKind.i64.wrap (i6 + (1 : Int))) (h1.set i6.toNat (IntKind.u8.wrap (↑(BitVec.ofInt (8 : Nat) (getAt (0 : Int) h1 i6.toNat) ^^^ BitVec.ofInt (8 : Nat) (↑(mask1.data.getD i6.toNat (0 : UInt8)).toNat : Int)).toNat : Int)))))))
 (some (strOfNums h1)) := by kernel_rfl
theorem s_l7Rot.f_eq (k : Nat) (s : ByteArray) (mask : ByteArray) : s_l7Rot.f k s mask =
 gd (decide (s.size ≤ (70368744177664 : Nat)))
 (s_l7Rot.l0 k k mask ((0 : Int)) (bytesL s)) := (opq_eq _).trans (by kernel_rfl)
abbrev s_l7Step.s : Sig := ⟨106, [.agg 3, .one], [.chg, .chg, .chg, .val], [.one (.row 9 .str), .one (.row 9 .str), .one (.row 4 .bool), .agg [.int .i64, .int .i64, .str, .row 3 (.int .i64)]], [.agg [.arg 1, .arg 2, .arg 3], .one .bool], [.rows 9 .str, .rows 9 .str, .rows 4 .bool], []⟩
noncomputable def s_l7Step.C (k : Nat) : List (Nat × Ctr) := [(128, s_l7There.s.ctr (fun x => s_l7There.f k x.1.1 x.1.2.1 x.1.2.2 x.2)), (129, s_l7Rot.s.ctr (fun x => s_l7Rot.f k x.1 x.2)), (50, s_l1In.s.ctr (fun x => s_l1In.f k x.1 x.2.1 x.2.2)), (52, s_l7Crash.s.ctr (fun x => s_l7Crash.f k x.1 x.2.1 x.2.2.1 x.2.2.2)), (73, s_l7Held.s.ctr (fun x => s_l7Held.f k x.1 x.2.1 x.2.2)), (91, s_l7Kept.s.ctr (fun x => s_l7Kept.f k x.1.1 x.1.2.1 x.1.2.2 x.2))]
noncomputable def s_l7Step.f (k : Nat) (d_Plate : List ByteArray) (d_Held : List ByteArray) (d_Bad : List Bool) (x_Kind : Int) (x_At : Int) (x_Text : ByteArray) (x_Kept : List Int) : Option (((Unit × Unit × Unit) × Bool) × List ByteArray × List ByteArray × List Bool) := opq (s_l7Step.s.run Try.prog (s_l7Step.C k) k (d_Plate, d_Held, d_Bad, (x_Kind, x_At, x_Text, x_Kept)))
theorem s_l7Step.ok (k : Nat) : CtrOk Try.prog 106 (s_l7Step.s.ctr (fun x => s_l7Step.f k x.1 x.2.1 x.2.2.1 x.2.2.2.1 x.2.2.2.2.1 x.2.2.2.2.2.1 x.2.2.2.2.2.2)) := sig_ok s_l7Step.s (.cons (s_l7There.ok k) (.cons (s_l7Rot.ok k) (.cons (s_l1In.ok k) (.cons (s_l7Crash.ok k) (.cons (s_l7Held.ok k) (.cons (s_l7Kept.ok k) .nil)))))) (by kernel_rfl) fun _ => opq_eq _
theorem s_l7Step.f_eq (k : Nat) (d_Plate : List ByteArray) (d_Held : List ByteArray) (d_Bad : List Bool) (x_Kind : Int) (x_At : Int) (x_Text : ByteArray) (x_Kept : List Int) : s_l7Step.f k d_Plate d_Held d_Bad x_Kind x_At x_Text x_Kept =

 let z2 : Option (((Unit × Unit × Unit) × Bool) × List ByteArray × List ByteArray × List Bool) := (s_l7Kept.f k d_Plate d_Held d_Bad x_Kept).bind fun d0 => cn (!d0) (some ((((() , () , ()) , false) , d_Plate, d_Held, d_Bad))) (cn (decide (x_Kind = (2 : Int))) ((s_l7Held.f k d_Plate d_Held d_Bad).bind fun d1 => (s_l7Crash.f k d_Plate d_Held d_Bad d1).bind fun d2 => some ((((() , () , ()) , true) , d2.snd.fst, d2.snd.snd.fst, d2.snd.snd.snd))) ((s_l7Crash.f k d_Plate d_Held d_Bad x_Kept).bind fun d1 => some ((((() , () , ()) , true) , d1.snd.fst, d1.snd.snd.fst, d1.snd.snd.snd))));
 let z5 : Option (((Unit × Unit × Unit) × Bool) × List ByteArray × List ByteArray × List Bool) := cn (!decide (x_At = (0 : Int))) (some ((((() , () , ()) , false) , d_Plate, d_Held, d_Bad))) (cn (!decide (x_Text.toList = ByteArray.empty.toList)) (some ((((() , () , ()) , false) , d_Plate, d_Held, d_Bad))) (cn (decide (x_Kind = (2 : Int))) (cn (decide ((0 : Int) < (↑x_Kept.length : Int))) (some ((((() , () , ()) , false) , d_Plate, d_Held, d_Bad))) z2) z2));
 let z12 : Option (((Unit × Unit × Unit) × Bool) × List ByteArray × List ByteArray × List Bool) := cn (decide (x_Kind = (6 : Int))) (cn (decide (x_Text.toList = ByteArray.empty.toList)) (gd (inb x_At d_Bad.length) (cn (getAt false d_Bad x_At.toNat) (gd (inb x_At d_Bad.length) (gd (inb x_At d_Plate.length) (some ((((() , () , ()) , true) , d_Plate.set x_At.toNat ByteArray.empty, d_Held, d_Bad.set x_At.toNat false))))) (some ((((() , () , ()) , false) , d_Plate, d_Held, d_Bad))))) (some ((((() , () , ()) , false) , d_Plate, d_Held, d_Bad)))) (some ((((() , () , ()) , false) , d_Plate, d_Held, d_Bad)));
 let z13 : Option (((Unit × Unit × Unit) × Bool) × List ByteArray × List ByteArray × List Bool) := cn (decide (x_Text.toList = ByteArray.empty.toList)) (gd (inb x_At d_Bad.length) (gd (inb x_At d_Held.length) (some ((((() , () , ()) , true) , d_Plate, d_Held.set x_At.toNat ByteArray.empty, d_Bad.set x_At.toNat true))))) z12;
 let z23 : Option (((Unit × Unit × Unit) × Bool) × List ByteArray × List ByteArray × List Bool) := cn (decide (x_Kind = (4 : Int))) (gd (inb x_At d_Held.length) (cn (decide ((getAt ByteArray.empty d_Held x_At.toNat).toList = ByteArray.empty.toList)) (gd (inb x_At d_Plate.length) (cn (!decide ((getAt ByteArray.empty d_Plate x_At.toNat).toList = ByteArray.empty.toList)) (gd (inb x_At d_Plate.length) ((s_l1In.f k (↑x_Text.size : Int) (1 : Int) (↑ (getAt ByteArray.empty d_Plate x_At.toNat).size : Int)).bind fun d1 => cn d1 (gd (inb x_At d_Plate.length) ((s_l7Rot.f k (getAt ByteArray.empty d_Plate x_At.toNat) x_Text).bind fun d2 => gd (inb x_At d_Plate.length) (some ((((() , () , ()) , true) , d_Plate.set x_At.toNat d2, d_Held, d_Bad))))) (cn (decide (x_Kind = (5 : Int))) z13 z12))) (cn (decide (x_Kind = (5 : Int))) z13 z12))) (cn (decide (x_Kind = (5 : Int))) z13 z12))) (cn (decide (x_Kind = (5 : Int))) z13 z12);
 cn (decide (x_Kind = (2 : Int))) z5 (cn (decide (x_Kind = (3 : Int))) z5 ((s_l7There.f k d_Plate d_Held d_Bad x_At).bind fun d0 => cn (!d0) (some ((((() , () , ()) , false) , d_Plate, d_Held, d_Bad))) (cn (decide ((0 : Int) < (↑x_Kept.length : Int))) (some ((((() , () , ()) , false) , d_Plate, d_Held, d_Bad))) (cn (decide (x_Kind = (1 : Int))) (gd (inb x_At d_Bad.length) (cn (!getAt false d_Bad x_At.toNat) ((s_l1In.f k (↑x_Text.size : Int) (1 : Int) (28 : Int)).bind fun d1 => cn d1 (gd (inb x_At d_Held.length) (some ((((() , () , ()) , true) , d_Plate, d_Held.set x_At.toNat x_Text, d_Bad)))) (cn (decide (x_Kind = (4 : Int))) (gd (inb x_At d_Held.length) (cn (decide ((getAt ByteArray.empty d_Held x_At.toNat).toList = ByteArray.empty.toList)) (gd (inb x_At d_Plate.length) (cn (!decide ((getAt ByteArray.empty d_Plate x_At.toNat).toList = ByteArray.empty.toList)) (gd (inb x_At d_Plate.length) ((s_l1In.f k (↑x_Text.size : Int) (1 : Int) (↑ (getAt ByteArray.empty d_Plate x_At.toNat).size : Int)).bind fun d2 => cn d2 (gd (inb x_At d_Plate.length) ((s_l7Rot.f k (getAt ByteArray.empty d_Plate x_At.toNat) x_Text).bind fun d3 => gd (inb x_At d_Plate.length) (some ((((() , () , ()) , true) , d_Plate.set x_At.toNat d3, d_Held, d_Bad))))) (cn (decide (x_Kind = (5 : Int))) z13 z12))) (cn (decide (x_Kind = (5 : Int))) z13 z12))) (cn (decide (x_Kind = (5 : Int))) z13 z12))) (cn (decide (x_Kind = (5 : Int))) z13 z12))) z23)) z23)))) := (opq_eq _).trans (by kernel_rfl)
abbrev s_l15Write.s : Sig := ⟨71, [.agg 3, .one, .one, .one, .one], [.chg, .chg, .chg, .val, .val, .val, .val], [.one (.row 9 .str), .one (.row 9 .str), .one (.row 4 .bool), .one (.int .i64), .one (.int .i64), .one (.int .i64), .one .str], [.agg [.arg 1, .arg 2, .arg 3]], [.rows 9 .str, .rows 9 .str, .rows 4 .bool], []⟩
noncomputable def s_l15Write.C (k : Nat) : List (Nat × Ctr) := [(106, s_l7Step.s.ctr (fun x => s_l7Step.f k x.1 x.2.1 x.2.2.1 x.2.2.2.1 x.2.2.2.2.1 x.2.2.2.2.2.1 x.2.2.2.2.2.2)), (107, s_l6Frame.s.ctr (fun x => s_l6Frame.f k x.1 x.2.1 x.2.2.1 x.2.2.2))]
noncomputable def s_l15Write.f (k : Nat) (d_Plate : List ByteArray) (d_Held : List ByteArray) (d_Bad : List Bool) (kind : Int) (at_ : Int) (epoch : Int) (body : ByteArray) : Option ((Unit × Unit × Unit) × List ByteArray × List ByteArray × List Bool) := opq (s_l15Write.s.run Try.prog (s_l15Write.C k) k (d_Plate, d_Held, d_Bad, kind, at_, epoch, body))
theorem s_l15Write.ok (k : Nat) : CtrOk Try.prog 71 (s_l15Write.s.ctr (fun x => s_l15Write.f k x.1 x.2.1 x.2.2.1 x.2.2.2.1 x.2.2.2.2.1 x.2.2.2.2.2.1 x.2.2.2.2.2.2)) := sig_ok s_l15Write.s (.cons (s_l7Step.ok k) (.cons (s_l6Frame.ok k) .nil)) (by kernel_rfl) fun _ => opq_eq _
theorem s_l15Write.f_eq (k : Nat) (d_Plate : List ByteArray) (d_Held : List ByteArray) (d_Bad : List Bool) (kind : Int) (at_ : Int) (epoch : Int) (body : ByteArray) : s_l15Write.f k d_Plate d_Held d_Bad kind at_ epoch body =
 both
 ((s_l6Frame.f k kind at_ epoch body).bind fun d0 =>
  dup
  ((s_l7Step.f k d_Plate d_Held d_Bad (1 : Int) at_ d0 []).bind fun d1 =>
   some ((((), (), ()), d1.snd.fst, d1.snd.snd.fst, d1.snd.snd.snd))))
 ((s_l6Frame.f k kind at_ epoch body).bind fun d0 =>
  (s_l7Step.f k d_Plate d_Held d_Bad (1 : Int) at_ d0 []).bind fun d1 =>
  some ((((), (), ()), d1.snd.fst, d1.snd.snd.fst, d1.snd.snd.snd))) := (opq_eq _).trans (by kernel_rfl)
abbrev s_l15Put.s : Sig := ⟨72, [.agg 3, .one, .one], [.chg, .chg, .chg, .val, .val], [.one (.row 9 .str), .one (.row 9 .str), .one (.row 4 .bool), .one (.int .i64), .one (.row 3 (.int .i64))], [.agg [.arg 1, .arg 2, .arg 3]], [.rows 9 .str, .rows 9 .str, .rows 4 .bool], [(0, [(1,false),(3,false),(6,false),(7,false),(13,true),(14,false),(15,false)])]⟩
noncomputable def s_l15Put.C (k : Nat) : List (Nat × Ctr) := [(60, s_l15Bytes.s.ctr (fun x => s_l15Bytes.f k x)), (66, s_l15Half.s.ctr (fun x => s_l15Half.f k x)), (71, s_l15Write.s.ctr (fun x => s_l15Write.f k x.1 x.2.1 x.2.2.1 x.2.2.2.1 x.2.2.2.2.1 x.2.2.2.2.2.1 x.2.2.2.2.2.2))]
noncomputable def s_l15Put.f (k : Nat) (d_Plate : List ByteArray) (d_Held : List ByteArray) (d_Bad : List Bool) (epoch : Int) (values : List Int) : Option ((Unit × Unit × Unit) × List ByteArray × List ByteArray × List Bool) := opq (s_l15Put.s.run Try.prog (s_l15Put.C k) k (d_Plate, d_Held, d_Bad, epoch, values))
theorem s_l15Put.ok (k : Nat) : CtrOk Try.prog 72 (s_l15Put.s.ctr (fun x => s_l15Put.f k x.1 x.2.1 x.2.2.1 x.2.2.2.1 x.2.2.2.2)) := sig_ok s_l15Put.s (.cons (s_l15Bytes.ok k) (.cons (s_l15Half.ok k) (.cons (s_l15Write.ok k) .nil))) (by kernel_rfl) fun _ => opq_eq _
noncomputable def s_l15Put.l0 (k : Nat) (m : Nat) (epoch1 : Int) (at7 : Int) (t14 : Int) (t15 : Int) (h1 : List ByteArray) (h2 : List ByteArray) (h3 : List Bool) (h6 : List ByteArray) : Option ((Unit × Unit × Unit) × List ByteArray × List ByteArray × List Bool) := s_l15Put.s.head Try.prog (s_l15Put.C k) k 4 0 [] m [(1, AV.int IntKind.i64 epoch1), (3, AV.ptr 4 0 0), (6, AV.ptr 5 0 0), (7, AV.int IntKind.i64 at7), (13, AV.ref 6), (14, AV.int IntKind.i64 t14), (15, AV.int IntKind.i64 t15)] [Root.dead, Root.rows 9 Kind.str h1, Root.rows 9 Kind.str h2, Root.rows 4 Kind.bool h3, Root.box 26 [AV.ref 1, AV.ref 2, AV.ref 3], Root.box 26 [AV.nil 9 Kind.str, AV.nil 9 Kind.str, AV.nil 4 Kind.bool], Root.rows 9 Kind.str h6]
theorem s_l15Put.l0_z (k : Nat) (epoch1 : Int) (at7 : Int) (t14 : Int) (t15 : Int) (h1 : List ByteArray) (h2 : List ByteArray) (h3 : List Bool) (h6 : List ByteArray) : s_l15Put.l0 k 0 epoch1 at7 t14 t15 h1 h2 h3 h6 = none := by kernel_rfl
theorem s_l15Put.l0_s (k : Nat) (m : Nat) (epoch1 : Int) (at7 : Int) (t14 : Int) (t15 : Int) (h1 : List ByteArray) (h2 : List ByteArray) (h3 : List Bool) (h6 : List ByteArray) : s_l15Put.l0 k (m + 1) epoch1 at7 t14 t15 h1 h2 h3 h6 =
 cn (decide (t15 < t14))
 (gd (inb t15 h6.length)
  ((s_l15Write.f k h1 h2 h3 (3 : Int) (IntKind.i64.wrap (at7 + t15)) epoch1 (getAt ByteArray.empty h6 t15.toNat)).bind fun d2 =>
   s_l15Put.l0 k m epoch1 at7 t14 (IntKind.i64.wrap (t15 + (1 : Int))) d2.snd.fst d2.snd.snd.fst d2.snd.snd.snd h6))
 (some ((((), (), ()), h1, h2, h3))) := by kernel_rfl
theorem s_l15Put.f_eq (k : Nat) (d_Plate : List ByteArray) (d_Held : List ByteArray) (d_Bad : List Bool) (epoch : Int) (values : List Int) : s_l15Put.f k d_Plate d_Held d_Bad epoch values =
 (s_l15Half.f k epoch).bind fun d0 =>
 (s_l15Bytes.f k values).bind fun d1 =>
 s_l15Put.l0 k k epoch d0 ((↑(List.length d1) : Int)) ((0 : Int)) d_Plate d_Held d_Bad d1 := (opq_eq _).trans (by kernel_rfl)
abbrev s_NewJournal.s : Sig := ⟨26, [], [], [], [.agg [.own 9 .str, .own 9 .str, .own 4 .bool, .int .i64, .int .i64, .own 3 (.int .i64), .own 3 (.int .i64)]], [], []⟩
noncomputable def s_NewJournal.C (k : Nat) : List (Nat × Ctr) := [(52, s_l7Crash.s.ctr (fun x => s_l7Crash.f k x.1 x.2.1 x.2.2.1 x.2.2.2)), (70, s_NewDisk.s.ctr (fun x => s_NewDisk.f k x)), (71, s_l15Write.s.ctr (fun x => s_l15Write.f k x.1 x.2.1 x.2.2.1 x.2.2.2.1 x.2.2.2.2.1 x.2.2.2.2.2.1 x.2.2.2.2.2.2)), (72, s_l15Put.s.ctr (fun x => s_l15Put.f k x.1 x.2.1 x.2.2.1 x.2.2.2.1 x.2.2.2.2)), (73, s_l7Held.s.ctr (fun x => s_l7Held.f k x.1 x.2.1 x.2.2))]
noncomputable def s_NewJournal.f (k : Nat)  : Option (List ByteArray × List ByteArray × List Bool × Int × Int × List Int × List Int) := opq (s_NewJournal.s.run Try.prog (s_NewJournal.C k) k ())
theorem s_NewJournal.ok (k : Nat) : CtrOk Try.prog 26 (s_NewJournal.s.ctr (fun _ => s_NewJournal.f k)) := sig_ok s_NewJournal.s (.cons (s_l7Crash.ok k) (.cons (s_NewDisk.ok k) (.cons (s_l15Write.ok k) (.cons (s_l15Put.ok k) (.cons (s_l7Held.ok k) .nil))))) (by kernel_rfl) fun _ => opq_eq _
theorem s_NewJournal.f_eq (k : Nat) : s_NewJournal.f k =
 (s_NewDisk.f k (5 : Int)).bind fun d0 =>
 (s_l15Put.f k d0.fst.fst d0.fst.snd.fst d0.fst.snd.snd (0 : Int) (List.replicate (6 : Nat) (0 : Int))).bind fun d1 =>
 (s_l15Write.f k d1.snd.fst d1.snd.snd.fst d1.snd.snd.snd (4 : Int) (0 : Int) (0 : Int) ByteArray.empty).bind fun d2 =>
 (s_l7Held.f k d2.snd.fst d2.snd.snd.fst d2.snd.snd.snd).bind fun d3 =>
 (s_l7Crash.f k d2.snd.fst d2.snd.snd.fst d2.snd.snd.snd d3).bind fun d4 =>
 some ((d4.snd.fst, d4.snd.snd.fst, d4.snd.snd.snd, (0 : Int), (0 : Int), List.replicate (6 : Nat) (0 : Int), [])) := (opq_eq _).trans (by kernel_rfl)
abbrev c_next.s : Sig := ⟨118, [], [.pbox 69], [.agg [.row 5 (.int .u8), .int .i64, .int .u64]], [.one (.int .i64)], [.box 69 [.row 5 (.int .u8), .int .i64, .int .u64]], []⟩
noncomputable def c_next.C (k : Nat) : List (Nat × Ctr) := []
noncomputable def c_next.f (k : Nat) (c_code : List Int) (c_at : Int) (c_seed : Int) : Option (Int × (List Int × Int × Int)) := opq (c_next.s.run Try.prog (c_next.C k) k (c_code, c_at, c_seed))
theorem c_next.ok (k : Nat) : CtrOk Try.prog 118 (c_next.s.ctr (fun x => c_next.f k x.1 x.2.1 x.2.2)) := sig_ok c_next.s .nil (by kernel_rfl) fun _ => opq_eq _
theorem c_next.f_eq (k : Nat) (c_code : List Int) (c_at : Int) (c_seed : Int) : c_next.f k c_code c_at c_seed =
 cn (decide (c_at < (↑c_code.length : Int)))
 (gd (inb c_at c_code.length)
  (cn (decide (IntKind.i64.wrap (c_at + (1 : Int)) ≤ (↑c_code.length : Int)))
   (some ((IntKind.i64.wrap (getAt (0 : Int) c_code c_at.toNat), c_code, IntKind.i64.wrap (c_at + (1 : Int)), IntKind.u64.wrap (IntKind.u64.wrap (IntKind.u64.wrap (c_seed * (6364136223846793005 : Int)) + IntKind.u64.wrap (IntKind.i64.wrap (getAt (0 : Int) c_code c_at.toNat))) + (1442695040888963407 : Int)))))
   (some ((IntKind.i64.wrap (IntKind.u64.wrap (↑(BitVec.ofInt (64 : Nat) ((IntKind.u64.wrap (IntKind.u64.wrap (IntKind.u64.wrap (c_seed * (6364136223846793005 : Int)) + IntKind.u64.wrap (IntKind.i64.wrap (getAt (0 : Int) c_code c_at.toNat))) + (1442695040888963407 : Int))).fdiv ((2 : Int) ^ (40 : Nat))) &&& BitVec.ofInt (64 : Nat) (255 : Int)).toNat : Int)), c_code, IntKind.i64.wrap (c_at + (1 : Int)), IntKind.u64.wrap (IntKind.u64.wrap (IntKind.u64.wrap (c_seed * (6364136223846793005 : Int)) + IntKind.u64.wrap (IntKind.i64.wrap (getAt (0 : Int) c_code c_at.toNat))) + (1442695040888963407 : Int)))))))
 (cn (decide (IntKind.i64.wrap (c_at + (1 : Int)) ≤ (↑c_code.length : Int)))
  (some (((0 : Int), c_code, IntKind.i64.wrap (c_at + (1 : Int)), IntKind.u64.wrap (IntKind.u64.wrap (IntKind.u64.wrap (c_seed * (6364136223846793005 : Int)) + IntKind.u64.wrap (0 : Int)) + (1442695040888963407 : Int)))))
  (some ((IntKind.i64.wrap (IntKind.u64.wrap (↑(BitVec.ofInt (64 : Nat) ((IntKind.u64.wrap (IntKind.u64.wrap (IntKind.u64.wrap (c_seed * (6364136223846793005 : Int)) + IntKind.u64.wrap (0 : Int)) + (1442695040888963407 : Int))).fdiv ((2 : Int) ^ (40 : Nat))) &&& BitVec.ofInt (64 : Nat) (255 : Int)).toNat : Int)), c_code, IntKind.i64.wrap (c_at + (1 : Int)), IntKind.u64.wrap (IntKind.u64.wrap (IntKind.u64.wrap (c_seed * (6364136223846793005 : Int)) + IntKind.u64.wrap (0 : Int)) + (1442695040888963407 : Int)))))) := (opq_eq _).trans (by kernel_rfl)
abbrev c_pick.s : Sig := ⟨85, [], [.pbox 69, .val], [.agg [.row 5 (.int .u8), .int .i64, .int .u64], .one (.int .i64)], [.one (.int .i64)], [.box 69 [.row 5 (.int .u8), .int .i64, .int .u64]], []⟩
noncomputable def c_pick.C (k : Nat) : List (Nat × Ctr) := [(118, c_next.s.ctr (fun x => c_next.f k x.1 x.2.1 x.2.2))]
noncomputable def c_pick.f (k : Nat) (c_code : List Int) (c_at : Int) (c_seed : Int) (n : Int) : Option (Int × (List Int × Int × Int)) := opq (c_pick.s.run Try.prog (c_pick.C k) k ((c_code, c_at, c_seed), n))
theorem c_pick.ok (k : Nat) : CtrOk Try.prog 85 (c_pick.s.ctr (fun x => c_pick.f k x.1.1 x.1.2.1 x.1.2.2 x.2)) := sig_ok c_pick.s (.cons (c_next.ok k) .nil) (by kernel_rfl) fun _ => opq_eq _
theorem c_pick.f_eq (k : Nat) (c_code : List Int) (c_at : Int) (c_seed : Int) (n : Int) : c_pick.f k c_code c_at c_seed n =
 cn (decide (n ≤ (1 : Int)))
 (some (((0 : Int), c_code, c_at, c_seed)))
 ((c_next.f k c_code c_at c_seed).bind fun d0 =>
  cn (decide ((200 : Int) < n))
  ((c_next.f k d0.snd.fst d0.snd.snd.fst d0.snd.snd.snd).bind fun d1 =>
   gd (!decide (n = (0 : Int)))
   (some (((IntKind.i64.wrap (IntKind.i64.wrap (d0.fst * (256 : Int)) + d1.fst)).tmod n, d1.snd.fst, d1.snd.snd.fst, d1.snd.snd.snd))))
  (gd (!decide (n = (0 : Int)))
   (some ((Int.tmod d0.fst n, d0.snd.fst, d0.snd.snd.fst, d0.snd.snd.snd))))) := (opq_eq _).trans (by kernel_rfl)
abbrev c_one.s : Sig := ⟨62, [], [.pbox 69, .val], [.agg [.row 5 (.int .u8), .int .i64, .int .u64], .one (.int .i64)], [.one .bool], [.box 69 [.row 5 (.int .u8), .int .i64, .int .u64]], []⟩
noncomputable def c_one.C (k : Nat) : List (Nat × Ctr) := [(85, c_pick.s.ctr (fun x => c_pick.f k x.1.1 x.1.2.1 x.1.2.2 x.2))]
noncomputable def c_one.f (k : Nat) (c_code : List Int) (c_at : Int) (c_seed : Int) (n : Int) : Option (Bool × (List Int × Int × Int)) := opq (c_one.s.run Try.prog (c_one.C k) k ((c_code, c_at, c_seed), n))
theorem c_one.ok (k : Nat) : CtrOk Try.prog 62 (c_one.s.ctr (fun x => c_one.f k x.1.1 x.1.2.1 x.1.2.2 x.2)) := sig_ok c_one.s (.cons (c_pick.ok k) .nil) (by kernel_rfl) fun _ => opq_eq _
theorem c_one.f_eq (k : Nat) (c_code : List Int) (c_at : Int) (c_seed : Int) (n : Int) : c_one.f k c_code c_at c_seed n =
 (c_pick.f k c_code c_at c_seed n).bind fun d0 =>
 some ((decide (d0.fst = (0 : Int)), d0.snd.fst, d0.snd.snd.fst, d0.snd.snd.snd)) := (opq_eq _).trans (by kernel_rfl)
abbrev c_among.s : Sig := ⟨65, [], [.pbox 69, .give], [.agg [.row 5 (.int .u8), .int .i64, .int .u64], .one (.row 3 (.int .i64))], [.one (.int .i64)], [.box 69 [.row 5 (.int .u8), .int .i64, .int .u64]], []⟩
noncomputable def c_among.C (k : Nat) : List (Nat × Ctr) := [(85, c_pick.s.ctr (fun x => c_pick.f k x.1.1 x.1.2.1 x.1.2.2 x.2))]
noncomputable def c_among.f (k : Nat) (c_code : List Int) (c_at : Int) (c_seed : Int) (list : List Int) : Option (Int × (List Int × Int × Int)) := opq (c_among.s.run Try.prog (c_among.C k) k ((c_code, c_at, c_seed), list))
theorem c_among.ok (k : Nat) : CtrOk Try.prog 65 (c_among.s.ctr (fun x => c_among.f k x.1.1 x.1.2.1 x.1.2.2 x.2)) := sig_ok c_among.s (.cons (c_pick.ok k) .nil) (by kernel_rfl) fun _ => opq_eq _
theorem c_among.f_eq (k : Nat) (c_code : List Int) (c_at : Int) (c_seed : Int) (list : List Int) : c_among.f k c_code c_at c_seed list =
 (c_pick.f k c_code c_at c_seed (↑list.length : Int)).bind fun d0 =>
 gd (inb d0.fst list.length)
 (some ((getAt (0 : Int) list (Int.toNat d0.fst), d0.snd.fst, d0.snd.snd.fst, d0.snd.snd.snd))) := (opq_eq _).trans (by kernel_rfl)
abbrev c_state15.s : Sig := ⟨58, [], [.pbox 69], [.agg [.row 5 (.int .u8), .int .i64, .int .u64]], [.one (.own 3 (.int .i64))], [.box 69 [.row 5 (.int .u8), .int .i64, .int .u64]], [(0, [(0,false),(3,true),(4,false)])]⟩
noncomputable def c_state15.C (k : Nat) : List (Nat × Ctr) := [(62, c_one.s.ctr (fun x => c_one.f k x.1.1 x.1.2.1 x.1.2.2 x.2)), (65, c_among.s.ctr (fun x => c_among.f k x.1.1 x.1.2.1 x.1.2.2 x.2))]
noncomputable def c_state15.f (k : Nat) (c_code : List Int) (c_at : Int) (c_seed : Int) : Option (List Int × (List Int × Int × Int)) := opq (c_state15.s.run Try.prog (c_state15.C k) k (c_code, c_at, c_seed))
theorem c_state15.ok (k : Nat) : CtrOk Try.prog 58 (c_state15.s.ctr (fun x => c_state15.f k x.1 x.2.1 x.2.2)) := sig_ok c_state15.s (.cons (c_one.ok k) (.cons (c_among.ok k) .nil)) (by kernel_rfl) fun _ => opq_eq _
noncomputable def c_state15.l0 (k : Nat) (m : Nat) (k4 : Int) (h1 : List Int) (h1_ : Int) (h1__ : Int) (h2 : List Int) : Option (List Int × (List Int × Int × Int)) := c_state15.s.head Try.prog (c_state15.C k) k 2 0 [] m [(0, AV.ptr 1 0 0), (3, AV.ref 2), (4, AV.int IntKind.i64 k4)] [Root.dead, Root.box 69 [AV.row 5 (Kind.int IntKind.u8) h1, AV.int IntKind.i64 h1_, AV.int IntKind.u64 h1__], Root.rows 3 (Kind.int IntKind.i64) h2]
theorem c_state15.l0_z (k : Nat) (k4 : Int) (h1 : List Int) (h1_ : Int) (h1__ : Int) (h2 : List Int) : c_state15.l0 k 0 k4 h1 h1_ h1__ h2 = none := by kernel_rfl
theorem c_state15.l0_s (k : Nat) (m : Nat) (k4 : Int) (h1 : List Int) (h1_ : Int) (h1__ : Int) (h2 : List Int) : c_state15.l0 k (m + 1) k4 h1 h1_ h1__ h2 =
 cn (decide (k4 < (6 : Int)))
 ((c_among.f k h1 h1_ h1__ [(0 : Int), (1 : Int), (7 : Int), (300 : Int), (65535 : Int)]).bind fun d0 =>
  gd (appOk (h2.length + [d0.fst].length) (Try.prog.bytesOf (3 : Nat)))
  (c_state15.l0 k m (IntKind.i64.wrap (k4 + (1 : Int))) d0.snd.fst d0.snd.snd.fst d0.snd.snd.snd (h2 ++ [d0.fst])))
 ((c_one.f k h1 h1_ h1__ (30 : Int)).bind fun d0 =>
  cn d0.fst
  ((c_among.f k d0.snd.fst d0.snd.snd.fst d0.snd.snd.snd [(-1 : Int), (65536 : Int)]).bind fun d1 =>
   gd (inb (0 : Int) h2.length)
   (some ((h2.set (0 : Nat) d1.fst, d1.snd.fst, d1.snd.snd.fst, d1.snd.snd.snd))))
  (some ((h2, d0.snd.fst, d0.snd.snd.fst, d0.snd.snd.snd)))) := by kernel_rfl
theorem c_state15.f_eq (k : Nat) (c_code : List Int) (c_at : Int) (c_seed : Int) : c_state15.f k c_code c_at c_seed =
 c_state15.l0 k k ((0 : Int)) c_code c_at c_seed ([]) := (opq_eq _).trans (by kernel_rfl)
abbrev s_l7Own.s : Sig := ⟨53, [], [.val], [.agg [.row 9 .str, .row 9 .str, .row 4 .bool]], [.agg [.own 9 .str, .own 9 .str, .own 4 .bool]], [], []⟩
noncomputable def s_l7Own.C (k : Nat) : List (Nat × Ctr) := []
noncomputable def s_l7Own.f (k : Nat) (d_Plate : List ByteArray) (d_Held : List ByteArray) (d_Bad : List Bool) : Option (List ByteArray × List ByteArray × List Bool) := opq (s_l7Own.s.run Try.prog (s_l7Own.C k) k (d_Plate, d_Held, d_Bad))
theorem s_l7Own.ok (k : Nat) : CtrOk Try.prog 53 (s_l7Own.s.ctr (fun x => s_l7Own.f k x.1 x.2.1 x.2.2)) := sig_ok s_l7Own.s .nil (by kernel_rfl) fun _ => opq_eq _
theorem s_l7Own.f_eq (k : Nat) (d_Plate : List ByteArray) (d_Held : List ByteArray) (d_Bad : List Bool) : s_l7Own.f k d_Plate d_Held d_Bad =
 both
 (both
  (gd (appOk ((0 : Nat) + d_Plate.length) (Try.prog.bytesOf (9 : Nat)))
   (both
    (dup
     (gd (appOk ((0 : Nat) + d_Held.length) (Try.prog.bytesOf (9 : Nat)))
      (gd (appOk ((0 : Nat) + d_Bad.length) (Try.prog.bytesOf (4 : Nat)))
       (some (([] ++ d_Plate, [] ++ d_Held, [] ++ d_Bad))))))
    (gd (appOk ((0 : Nat) + d_Held.length) (Try.prog.bytesOf (9 : Nat)))
     (gd (appOk ((0 : Nat) + d_Bad.length) (Try.prog.bytesOf (4 : Nat)))
      (some (([] ++ d_Plate, [] ++ d_Held, [] ++ d_Bad)))))))
  (both
   (both
    (gd (appOk ((0 : Nat) + d_Plate.length) (Try.prog.bytesOf (9 : Nat)))
     (dup
      (gd (appOk ((0 : Nat) + d_Held.length) (Try.prog.bytesOf (9 : Nat)))
       (gd (appOk ((0 : Nat) + d_Bad.length) (Try.prog.bytesOf (4 : Nat)))
        (some (([] ++ d_Plate, [] ++ d_Held, [] ++ d_Bad)))))))
    (gd (appOk ((0 : Nat) + d_Plate.length) (Try.prog.bytesOf (9 : Nat)))
     (gd (appOk ((0 : Nat) + d_Held.length) (Try.prog.bytesOf (9 : Nat)))
      (gd (appOk ((0 : Nat) + d_Bad.length) (Try.prog.bytesOf (4 : Nat)))
       (some (([] ++ d_Plate, [] ++ d_Held, [] ++ d_Bad)))))))
   (dup
    (gd (appOk ((0 : Nat) + d_Plate.length) (Try.prog.bytesOf (9 : Nat)))
     (gd (appOk ((0 : Nat) + d_Held.length) (Try.prog.bytesOf (9 : Nat)))
      (gd (appOk ((0 : Nat) + d_Bad.length) (Try.prog.bytesOf (4 : Nat)))
       (some (([] ++ d_Plate, [] ++ d_Held, [] ++ d_Bad)))))))))
 (both
  (both
   (both
    (gd (appOk ((0 : Nat) + d_Plate.length) (Try.prog.bytesOf (9 : Nat)))
     (dup
      (gd (appOk ((0 : Nat) + d_Held.length) (Try.prog.bytesOf (9 : Nat)))
       (gd (appOk ((0 : Nat) + d_Bad.length) (Try.prog.bytesOf (4 : Nat)))
        (some (([] ++ d_Plate, [] ++ d_Held, [] ++ d_Bad)))))))
    (gd (appOk ((0 : Nat) + d_Plate.length) (Try.prog.bytesOf (9 : Nat)))
     (gd (appOk ((0 : Nat) + d_Held.length) (Try.prog.bytesOf (9 : Nat)))
      (gd (appOk ((0 : Nat) + d_Bad.length) (Try.prog.bytesOf (4 : Nat)))
       (some (([] ++ d_Plate, [] ++ d_Held, [] ++ d_Bad)))))))
   (gd (appOk ((0 : Nat) + d_Plate.length) (Try.prog.bytesOf (9 : Nat)))
    (gd (appOk ((0 : Nat) + d_Held.length) (Try.prog.bytesOf (9 : Nat)))
     (gd (appOk ((0 : Nat) + d_Bad.length) (Try.prog.bytesOf (4 : Nat)))
      (some (([] ++ d_Plate, [] ++ d_Held, [] ++ d_Bad)))))))
  (both
   (dup
    (gd (appOk ((0 : Nat) + d_Plate.length) (Try.prog.bytesOf (9 : Nat)))
     (gd (appOk ((0 : Nat) + d_Held.length) (Try.prog.bytesOf (9 : Nat)))
      (gd (appOk ((0 : Nat) + d_Bad.length) (Try.prog.bytesOf (4 : Nat)))
       (some (([] ++ d_Plate, [] ++ d_Held, [] ++ d_Bad)))))))
   (gd (appOk ((0 : Nat) + d_Plate.length) (Try.prog.bytesOf (9 : Nat)))
    (gd (appOk ((0 : Nat) + d_Held.length) (Try.prog.bytesOf (9 : Nat)))
     (gd (appOk ((0 : Nat) + d_Bad.length) (Try.prog.bytesOf (4 : Nat)))
      (some (([] ++ d_Plate, [] ++ d_Held, [] ++ d_Bad)))))))) := (opq_eq _).trans (by kernel_rfl)
abbrev s_l15Own.s : Sig := ⟨40, [], [.val], [.agg [.row 9 .str, .row 9 .str, .row 4 .bool, .int .i64, .int .i64, .row 3 (.int .i64), .row 3 (.int .i64)]], [.agg [.own 9 .str, .own 9 .str, .own 4 .bool, .int .i64, .int .i64, .own 3 (.int .i64), .own 3 (.int .i64)]], [], []⟩
noncomputable def s_l15Own.C (k : Nat) : List (Nat × Ctr) := [(53, s_l7Own.s.ctr (fun x => s_l7Own.f k x.1 x.2.1 x.2.2))]
noncomputable def s_l15Own.f (k : Nat) (j_Disk_Plate : List ByteArray) (j_Disk_Held : List ByteArray) (j_Disk_Bad : List Bool) (j_Epoch : Int) (j_Phase : Int) (j_Acked : List Int) (j_Coming : List Int) : Option (List ByteArray × List ByteArray × List Bool × Int × Int × List Int × List Int) := opq (s_l15Own.s.run Try.prog (s_l15Own.C k) k (j_Disk_Plate, j_Disk_Held, j_Disk_Bad, j_Epoch, j_Phase, j_Acked, j_Coming))
theorem s_l15Own.ok (k : Nat) : CtrOk Try.prog 40 (s_l15Own.s.ctr (fun x => s_l15Own.f k x.1 x.2.1 x.2.2.1 x.2.2.2.1 x.2.2.2.2.1 x.2.2.2.2.2.1 x.2.2.2.2.2.2)) := sig_ok s_l15Own.s (.cons (s_l7Own.ok k) .nil) (by kernel_rfl) fun _ => opq_eq _
theorem s_l15Own.f_eq (k : Nat) (j_Disk_Plate : List ByteArray) (j_Disk_Held : List ByteArray) (j_Disk_Bad : List Bool) (j_Epoch : Int) (j_Phase : Int) (j_Acked : List Int) (j_Coming : List Int) : s_l15Own.f k j_Disk_Plate j_Disk_Held j_Disk_Bad j_Epoch j_Phase j_Acked j_Coming =
 both
 ((s_l7Own.f k j_Disk_Plate j_Disk_Held j_Disk_Bad).bind fun d0 =>
  both
  (dup
   (gd (appOk ((0 : Nat) + j_Acked.length) (Try.prog.bytesOf (3 : Nat)))
    (gd (appOk ((0 : Nat) + j_Coming.length) (Try.prog.bytesOf (3 : Nat)))
     (some ((d0.fst, d0.snd.fst, d0.snd.snd, j_Epoch, j_Phase, [] ++ j_Acked, [] ++ j_Coming))))))
  (gd (appOk ((0 : Nat) + j_Acked.length) (Try.prog.bytesOf (3 : Nat)))
   (gd (appOk ((0 : Nat) + j_Coming.length) (Try.prog.bytesOf (3 : Nat)))
    (some ((d0.fst, d0.snd.fst, d0.snd.snd, j_Epoch, j_Phase, [] ++ j_Acked, [] ++ j_Coming))))))
 (both
  (both
   ((s_l7Own.f k j_Disk_Plate j_Disk_Held j_Disk_Bad).bind fun d0 =>
    dup
    (gd (appOk ((0 : Nat) + j_Acked.length) (Try.prog.bytesOf (3 : Nat)))
     (gd (appOk ((0 : Nat) + j_Coming.length) (Try.prog.bytesOf (3 : Nat)))
      (some ((d0.fst, d0.snd.fst, d0.snd.snd, j_Epoch, j_Phase, [] ++ j_Acked, [] ++ j_Coming))))))
   ((s_l7Own.f k j_Disk_Plate j_Disk_Held j_Disk_Bad).bind fun d0 =>
    gd (appOk ((0 : Nat) + j_Acked.length) (Try.prog.bytesOf (3 : Nat)))
    (gd (appOk ((0 : Nat) + j_Coming.length) (Try.prog.bytesOf (3 : Nat)))
     (some ((d0.fst, d0.snd.fst, d0.snd.snd, j_Epoch, j_Phase, [] ++ j_Acked, [] ++ j_Coming))))))
  (dup
   ((s_l7Own.f k j_Disk_Plate j_Disk_Held j_Disk_Bad).bind fun d0 =>
    gd (appOk ((0 : Nat) + j_Acked.length) (Try.prog.bytesOf (3 : Nat)))
    (gd (appOk ((0 : Nat) + j_Coming.length) (Try.prog.bytesOf (3 : Nat)))
     (some ((d0.fst, d0.snd.fst, d0.snd.snd, j_Epoch, j_Phase, [] ++ j_Acked, [] ++ j_Coming))))))) := (opq_eq _).trans (by kernel_rfl)
abbrev s_l15State.s : Sig := ⟨49, [], [.val], [.one (.row 3 (.int .i64))], [.one .bool], [], [(0, [(0,false),(5,true),(6,false),(7,false)])]⟩
noncomputable def s_l15State.C (k : Nat) : List (Nat × Ctr) := [(50, s_l1In.s.ctr (fun x => s_l1In.f k x.1 x.2.1 x.2.2))]
noncomputable def s_l15State.f (k : Nat) (values : List Int) : Option Bool := opq (s_l15State.s.run Try.prog (s_l15State.C k) k values)
theorem s_l15State.ok (k : Nat) : CtrOk Try.prog 49 (s_l15State.s.ctr (fun x => s_l15State.f k x)) := sig_ok s_l15State.s (.cons (s_l1In.ok k) .nil) (by kernel_rfl) fun _ => opq_eq _
noncomputable def s_l15State.l0 (k : Nat) (m : Nat) (values0 : List Int) (t5 : List Int) (t6 : Int) (t7 : Int) : Option Bool := s_l15State.s.head Try.prog (s_l15State.C k) k 1 0 [] m [(0, AV.row 3 (Kind.int IntKind.i64) values0), (5, AV.row 3 (Kind.int IntKind.i64) t5), (6, AV.int IntKind.i64 t6), (7, AV.int IntKind.i64 t7)] [Root.dead]
theorem s_l15State.l0_z (k : Nat) (values0 : List Int) (t5 : List Int) (t6 : Int) (t7 : Int) : s_l15State.l0 k 0 values0 t5 t6 t7 = none := by kernel_rfl
theorem s_l15State.l0_s (k : Nat) (m : Nat) (values0 : List Int) (t5 : List Int) (t6 : Int) (t7 : Int) : s_l15State.l0 k (m + 1) values0 t5 t6 t7 =
 cn (decide (t7 < t6))
 (gd (inb t7 t5.length)
  ((s_l1In.f k (getAt (0 : Int) t5 t7.toNat) (0 : Int) (65535 : Int)).bind fun d0 =>
   cn (!d0)
   (some false)
   (s_l15State.l0 k m values0 t5 t6 (IntKind.i64.wrap (t7 + (1 : Int))))))
 (some (decide ((↑values0.length : Int) = (6 : Int)))) := by kernel_rfl
theorem s_l15State.f_eq (k : Nat) (values : List Int) : s_l15State.f k values =
 s_l15State.l0 k k values values ((↑values.length : Int)) ((0 : Int)) := (opq_eq _).trans (by kernel_rfl)
abbrev s_l15Sync.s : Sig := ⟨90, [.agg 7], [.give, .give, .give, .val, .val, .give, .give], [.one (.row 9 .str), .one (.row 9 .str), .one (.row 4 .bool), .one (.int .i64), .one (.int .i64), .one (.row 3 (.int .i64)), .one (.row 3 (.int .i64))], [.agg [.own 9 .str, .own 9 .str, .own 4 .bool, .int .i64, .int .i64, .own 3 (.int .i64), .own 3 (.int .i64)]], [], []⟩
noncomputable def s_l15Sync.C (k : Nat) : List (Nat × Ctr) := [(52, s_l7Crash.s.ctr (fun x => s_l7Crash.f k x.1 x.2.1 x.2.2.1 x.2.2.2)), (73, s_l7Held.s.ctr (fun x => s_l7Held.f k x.1 x.2.1 x.2.2))]
noncomputable def s_l15Sync.f (k : Nat) (j_Disk_Plate : List ByteArray) (j_Disk_Held : List ByteArray) (j_Disk_Bad : List Bool) (j_Epoch : Int) (j_Phase : Int) (j_Acked : List Int) (j_Coming : List Int) : Option (List ByteArray × List ByteArray × List Bool × Int × Int × List Int × List Int) := opq (s_l15Sync.s.run Try.prog (s_l15Sync.C k) k (j_Disk_Plate, j_Disk_Held, j_Disk_Bad, j_Epoch, j_Phase, j_Acked, j_Coming))
theorem s_l15Sync.ok (k : Nat) : CtrOk Try.prog 90 (s_l15Sync.s.ctr (fun x => s_l15Sync.f k x.1 x.2.1 x.2.2.1 x.2.2.2.1 x.2.2.2.2.1 x.2.2.2.2.2.1 x.2.2.2.2.2.2)) := sig_ok s_l15Sync.s (.cons (s_l7Crash.ok k) (.cons (s_l7Held.ok k) .nil)) (by kernel_rfl) fun _ => opq_eq _
theorem s_l15Sync.f_eq (k : Nat) (j_Disk_Plate : List ByteArray) (j_Disk_Held : List ByteArray) (j_Disk_Bad : List Bool) (j_Epoch : Int) (j_Phase : Int) (j_Acked : List Int) (j_Coming : List Int) : s_l15Sync.f k j_Disk_Plate j_Disk_Held j_Disk_Bad j_Epoch j_Phase j_Acked j_Coming =
 (s_l7Held.f k j_Disk_Plate j_Disk_Held j_Disk_Bad).bind fun d0 =>
 (s_l7Crash.f k j_Disk_Plate j_Disk_Held j_Disk_Bad d0).bind fun d1 =>
 cn (decide (j_Phase = (1 : Int)))
 (some ((d1.snd.fst, d1.snd.snd.fst, d1.snd.snd.snd, j_Epoch, (2 : Int), j_Acked, j_Coming)))
 (cn (decide (j_Phase = (3 : Int)))
  (some ((d1.snd.fst, d1.snd.snd.fst, d1.snd.snd.snd, IntKind.i64.wrap (j_Epoch + (1 : Int)), (0 : Int), j_Coming, [])))
  (some ((d1.snd.fst, d1.snd.snd.fst, d1.snd.snd.snd, j_Epoch, j_Phase, j_Acked, j_Coming)))) := (opq_eq _).trans (by kernel_rfl)
abbrev s_l7Read.s : Sig := ⟨98, [], [.val, .val], [.agg [.row 9 .str, .row 9 .str, .row 4 .bool], .one (.int .i64)], [.one .str, .one .bool], [], []⟩
noncomputable def s_l7Read.C (k : Nat) : List (Nat × Ctr) := []
noncomputable def s_l7Read.f (k : Nat) (d_Plate : List ByteArray) (d_Held : List ByteArray) (d_Bad : List Bool) (at_ : Int) : Option (ByteArray × Bool) := opq (s_l7Read.s.run Try.prog (s_l7Read.C k) k ((d_Plate, d_Held, d_Bad), at_))
theorem s_l7Read.ok (k : Nat) : CtrOk Try.prog 98 (s_l7Read.s.ctr (fun x => s_l7Read.f k x.1.1 x.1.2.1 x.1.2.2 x.2)) := sig_ok s_l7Read.s .nil (by kernel_rfl) fun _ => opq_eq _
theorem s_l7Read.f_eq (k : Nat) (d_Plate : List ByteArray) (d_Held : List ByteArray) (d_Bad : List Bool) (at_ : Int) : s_l7Read.f k d_Plate d_Held d_Bad at_ =
 gd (inb at_ d_Bad.length)
 (cn (getAt false d_Bad at_.toNat)
  (some ((ByteArray.empty, false)))
  (gd (inb at_ d_Held.length)
   (cn (!decide ((getAt ByteArray.empty d_Held at_.toNat).toList = ByteArray.empty.toList))
    (gd (inb at_ d_Held.length)
     (some ((getAt ByteArray.empty d_Held at_.toNat, true))))
    (gd (inb at_ d_Plate.length)
     (some ((getAt ByteArray.empty d_Plate at_.toNat, true))))))) := (opq_eq _).trans (by kernel_rfl)
abbrev s_l6Value.s : Sig := ⟨64, [], [.val], [.one .str], [.one (.int .i64)], [], [(0, [(0,false),(3,false),(4,false)])]⟩
noncomputable def s_l6Value.C (k : Nat) : List (Nat × Ctr) := []
noncomputable def s_l6Value.f (k : Nat) (s : ByteArray) : Option Int := opq (s_l6Value.s.run Try.prog (s_l6Value.C k) k s)
theorem s_l6Value.ok (k : Nat) : CtrOk Try.prog 64 (s_l6Value.s.ctr (fun x => s_l6Value.f k x)) := sig_ok s_l6Value.s .nil (by kernel_rfl) fun _ => opq_eq _
noncomputable def s_l6Value.l0 (k : Nat) (m : Nat) (s0 : ByteArray) (n3 : Int) (i4 : Int) : Option Int := s_l6Value.s.head Try.prog (s_l6Value.C k) k 1 0 [] m [(0, AV.str s0), (3, AV.int IntKind.i64 n3), (4, AV.int IntKind.i64 i4)] [Root.dead]
theorem s_l6Value.l0_z (k : Nat) (s0 : ByteArray) (n3 : Int) (i4 : Int) : s_l6Value.l0 k 0 s0 n3 i4 = none := by kernel_rfl
theorem s_l6Value.l0_s (k : Nat) (m : Nat) (s0 : ByteArray) (n3 : Int) (i4 : Int) : s_l6Value.l0 k (m + 1) s0 n3 i4 =
 cn (decide (i4 < (↑s0.size : Int)))
 (gd (inb i4 s0.size)
  (s_l6Value.l0 k m s0 (IntKind.i64.wrap (↑(BitVec.ofInt (64 : Nat) (IntKind.i64.wrap (n3 * (2 : Int) ^ (8 : Nat))) ||| BitVec.ofInt (64 : Nat) (IntKind.i64.wrap (↑(s0.data.getD i4.toNat (0 : UInt8)).toNat : Int))).toNat : Int)) (IntKind.i64.wrap (i4 + (1 : Int)))))
 (some n3) := by kernel_rfl
theorem s_l6Value.f_eq (k : Nat) (s : ByteArray) : s_l6Value.f k s =
 s_l6Value.l0 k k s ((0 : Int)) ((0 : Int)) := (opq_eq _).trans (by kernel_rfl)
abbrev s_GoodFrame.s : Sig := ⟨133, [], [.val], [.agg [.int .i64, .int .i64, .int .i64, .str]], [.one .bool], [], []⟩
noncomputable def s_GoodFrame.C (k : Nat) : List (Nat × Ctr) := [(50, s_l1In.s.ctr (fun x => s_l1In.f k x.1 x.2.1 x.2.2))]
noncomputable def s_GoodFrame.f (k : Nat) (f_Kind : Int) (f_At : Int) (f_Epoch : Int) (f_Body : ByteArray) : Option Bool := opq (s_GoodFrame.s.run Try.prog (s_GoodFrame.C k) k (f_Kind, f_At, f_Epoch, f_Body))
theorem s_GoodFrame.ok (k : Nat) : CtrOk Try.prog 133 (s_GoodFrame.s.ctr (fun x => s_GoodFrame.f k x.1 x.2.1 x.2.2.1 x.2.2.2)) := sig_ok s_GoodFrame.s (.cons (s_l1In.ok k) .nil) (by kernel_rfl) fun _ => opq_eq _
theorem s_GoodFrame.f_eq (k : Nat) (f_Kind : Int) (f_At : Int) (f_Epoch : Int) (f_Body : ByteArray) : s_GoodFrame.f k f_Kind f_At f_Epoch f_Body =
 (s_l1In.f k f_Kind (1 : Int) (255 : Int)).bind fun d0 =>
 cn d0
 ((s_l1In.f k f_At (0 : Int) (60000 : Int)).bind fun d1 =>
  cn d1
  ((s_l1In.f k f_Epoch (0 : Int) (60000 : Int)).bind fun d2 =>
   cn d2
   (some (decide ((↑f_Body.size : Int) ≤ (16 : Int))))
   (some false))
  (some false))
 (some false) := (opq_eq _).trans (by kernel_rfl)
abbrev s_ReadFrame.s : Sig := ⟨125, [], [.val], [.one .str], [.agg [.int .i64, .int .i64, .int .i64, .str], .one (.int .i64), .one .bool], [], []⟩
noncomputable def s_ReadFrame.C (k : Nat) : List (Nat × Ctr) := [(107, s_l6Frame.s.ctr (fun x => s_l6Frame.f k x.1 x.2.1 x.2.2.1 x.2.2.2)), (130, s_l6Low.s.ctr (fun x => s_l6Low.f k x)), (131, s_l5On.s.ctr (fun x => s_l5On.f k x.1 x.2)), (133, s_GoodFrame.s.ctr (fun x => s_GoodFrame.f k x.1 x.2.1 x.2.2.1 x.2.2.2)), (64, s_l6Value.s.ctr (fun x => s_l6Value.f k x))]
noncomputable def s_ReadFrame.f (k : Nat) (s : ByteArray) : Option ((Int × Int × Int × ByteArray) × Int × Bool) := opq (s_ReadFrame.s.run Try.prog (s_ReadFrame.C k) k s)
theorem s_ReadFrame.ok (k : Nat) : CtrOk Try.prog 125 (s_ReadFrame.s.ctr (fun x => s_ReadFrame.f k x)) := sig_ok s_ReadFrame.s (.cons (s_l6Frame.ok k) (.cons (s_l6Low.ok k) (.cons (s_l5On.ok k) (.cons (s_GoodFrame.ok k) (.cons (s_l6Value.ok k) .nil))))) (by kernel_rfl) fun _ => opq_eq _
theorem s_ReadFrame.f_eq (k : Nat) (s : ByteArray) : s_ReadFrame.f k s =
 cn (!decide ((↑s.size : Int) = (28 : Int)))
 (some ((((0 : Int), (0 : Int), (0 : Int), ByteArray.empty), (1 : Int), false)))
 (gd (true && decide ((24 : Int) ≤ (↑s.size : Int)))
  (gd (true && decide ((24 : Int) ≤ (↑s.size : Int)))
   ((s_l5On.f k (0 : Int) (s.extract (0 : Nat) (24 : Nat))).bind fun d0 =>
    (s_l6Low.f k d0).bind fun d1 =>
    cn (!decide (ByteArray.toList d1 = (s.extract (24 : Nat) s.size).toList))
    (some ((((0 : Int), (0 : Int), (0 : Int), ByteArray.empty), (2 : Int), false)))
    (gd (true && decide ((1 : Int) ≤ (↑s.size : Int)))
     (gd (true && (true && decide ((3 : Int) ≤ (↑s.size : Int))))
      (gd (true && (true && decide ((5 : Int) ≤ (↑s.size : Int))))
       (both
        ((s_l6Value.f k (s.extract (0 : Nat) (1 : Nat))).bind fun d2 =>
         both
         ((s_l6Value.f k (s.extract (1 : Nat) (3 : Nat))).bind fun d3 =>
          dup
          ((s_l6Value.f k (s.extract (3 : Nat) (5 : Nat))).bind fun d4 =>
           gd (inb (5 : Int) s.size)
           (cn (decide ((16 : Int) < IntKind.i64.wrap (↑(s.data.getD (5 : Nat) (0 : UInt8)).toNat : Int)))
            (some ((((0 : Int), (0 : Int), (0 : Int), ByteArray.empty), (3 : Int), false)))
            (gd (true && (decide ((6 : Int) ≤ IntKind.i64.wrap ((6 : Int) + IntKind.i64.wrap (↑(s.data.getD (5 : Nat) (0 : UInt8)).toNat : Int))) && decide (IntKind.i64.wrap ((6 : Int) + IntKind.i64.wrap (↑(s.data.getD (5 : Nat) (0 : UInt8)).toNat : Int)) ≤ (↑s.size : Int))))
             ((s_GoodFrame.f k d2 d3 d4 (s.extract (6 : Nat) (IntKind.i64.wrap ((6 : Int) + IntKind.i64.wrap (↑(s.data.getD (5 : Nat) (0 : UInt8)).toNat : Int))).toNat)).bind fun d5 =>
              cn (!d5)
              (some ((((0 : Int), (0 : Int), (0 : Int), ByteArray.empty), (3 : Int), false)))
              ((s_l6Frame.f k d2 d3 d4 (s.extract (6 : Nat) (IntKind.i64.wrap ((6 : Int) + IntKind.i64.wrap (↑(s.data.getD (5 : Nat) (0 : UInt8)).toNat : Int))).toNat)).bind fun d6 =>
               cn (!decide (ByteArray.toList d6 = s.toList))
               (some ((((0 : Int), (0 : Int), (0 : Int), ByteArray.empty), (3 : Int), false)))
               (some (((d2, d3, d4, s.extract (6 : Nat) (IntKind.i64.wrap ((6 : Int) + IntKind.i64.wrap (↑(s.data.getD (5 : Nat) (0 : UInt8)).toNat : Int))).toNat), (0 : Int), true)))))))))
         ((s_l6Value.f k (s.extract (1 : Nat) (3 : Nat))).bind fun d3 =>
          (s_l6Value.f k (s.extract (3 : Nat) (5 : Nat))).bind fun d4 =>
          gd (inb (5 : Int) s.size)
          (cn (decide ((16 : Int) < IntKind.i64.wrap (↑(s.data.getD (5 : Nat) (0 : UInt8)).toNat : Int)))
           (some ((((0 : Int), (0 : Int), (0 : Int), ByteArray.empty), (3 : Int), false)))
           (gd (true && (decide ((6 : Int) ≤ IntKind.i64.wrap ((6 : Int) + IntKind.i64.wrap (↑(s.data.getD (5 : Nat) (0 : UInt8)).toNat : Int))) && decide (IntKind.i64.wrap ((6 : Int) + IntKind.i64.wrap (↑(s.data.getD (5 : Nat) (0 : UInt8)).toNat : Int)) ≤ (↑s.size : Int))))
            ((s_GoodFrame.f k d2 d3 d4 (s.extract (6 : Nat) (IntKind.i64.wrap ((6 : Int) + IntKind.i64.wrap (↑(s.data.getD (5 : Nat) (0 : UInt8)).toNat : Int))).toNat)).bind fun d5 =>
             cn (!d5)
             (some ((((0 : Int), (0 : Int), (0 : Int), ByteArray.empty), (3 : Int), false)))
             ((s_l6Frame.f k d2 d3 d4 (s.extract (6 : Nat) (IntKind.i64.wrap ((6 : Int) + IntKind.i64.wrap (↑(s.data.getD (5 : Nat) (0 : UInt8)).toNat : Int))).toNat)).bind fun d6 =>
              cn (!decide (ByteArray.toList d6 = s.toList))
              (some ((((0 : Int), (0 : Int), (0 : Int), ByteArray.empty), (3 : Int), false)))
              (some (((d2, d3, d4, s.extract (6 : Nat) (IntKind.i64.wrap ((6 : Int) + IntKind.i64.wrap (↑(s.data.getD (5 : Nat) (0 : UInt8)).toNat : Int))).toNat), (0 : Int), true)))))))))
        ((s_l6Value.f k (s.extract (0 : Nat) (1 : Nat))).bind fun d2 =>
         (s_l6Value.f k (s.extract (1 : Nat) (3 : Nat))).bind fun d3 =>
         (s_l6Value.f k (s.extract (3 : Nat) (5 : Nat))).bind fun d4 =>
         gd (inb (5 : Int) s.size)
         (cn (decide ((16 : Int) < IntKind.i64.wrap (↑(s.data.getD (5 : Nat) (0 : UInt8)).toNat : Int)))
          (some ((((0 : Int), (0 : Int), (0 : Int), ByteArray.empty), (3 : Int), false)))
          (gd (true && (decide ((6 : Int) ≤ IntKind.i64.wrap ((6 : Int) + IntKind.i64.wrap (↑(s.data.getD (5 : Nat) (0 : UInt8)).toNat : Int))) && decide (IntKind.i64.wrap ((6 : Int) + IntKind.i64.wrap (↑(s.data.getD (5 : Nat) (0 : UInt8)).toNat : Int)) ≤ (↑s.size : Int))))
           ((s_GoodFrame.f k d2 d3 d4 (s.extract (6 : Nat) (IntKind.i64.wrap ((6 : Int) + IntKind.i64.wrap (↑(s.data.getD (5 : Nat) (0 : UInt8)).toNat : Int))).toNat)).bind fun d5 =>
            cn (!d5)
            (some ((((0 : Int), (0 : Int), (0 : Int), ByteArray.empty), (3 : Int), false)))
            ((s_l6Frame.f k d2 d3 d4 (s.extract (6 : Nat) (IntKind.i64.wrap ((6 : Int) + IntKind.i64.wrap (↑(s.data.getD (5 : Nat) (0 : UInt8)).toNat : Int))).toNat)).bind fun d6 =>
             cn (!decide (ByteArray.toList d6 = s.toList))
             (some ((((0 : Int), (0 : Int), (0 : Int), ByteArray.empty), (3 : Int), false)))
             (some (((d2, d3, d4, s.extract (6 : Nat) (IntKind.i64.wrap ((6 : Int) + IntKind.i64.wrap (↑(s.data.getD (5 : Nat) (0 : UInt8)).toNat : Int))).toNat), (0 : Int), true))))))))))))))) := (opq_eq _).trans (by kernel_rfl)
abbrev s_CheckFrame.s : Sig := ⟨99, [], [.val, .val, .val, .val], [.one .str, .one (.int .i64), .one (.int .i64), .one (.int .i64)], [.agg [.int .i64, .int .i64, .int .i64, .str], .one (.int .i64), .one .bool], [], []⟩
noncomputable def s_CheckFrame.C (k : Nat) : List (Nat × Ctr) := [(125, s_ReadFrame.s.ctr (fun x => s_ReadFrame.f k x))]
noncomputable def s_CheckFrame.f (k : Nat) (s : ByteArray) (kind : Int) (at_ : Int) (least : Int) : Option ((Int × Int × Int × ByteArray) × Int × Bool) := opq (s_CheckFrame.s.run Try.prog (s_CheckFrame.C k) k (s, kind, at_, least))
theorem s_CheckFrame.ok (k : Nat) : CtrOk Try.prog 99 (s_CheckFrame.s.ctr (fun x => s_CheckFrame.f k x.1 x.2.1 x.2.2.1 x.2.2.2)) := sig_ok s_CheckFrame.s (.cons (s_ReadFrame.ok k) .nil) (by kernel_rfl) fun _ => opq_eq _
theorem s_CheckFrame.f_eq (k : Nat) (s : ByteArray) (kind : Int) (at_ : Int) (least : Int) : s_CheckFrame.f k s kind at_ least =
 (s_ReadFrame.f k s).bind fun d0 =>
 cn (!d0.snd.snd)
 (some ((((0 : Int), (0 : Int), (0 : Int), ByteArray.empty), d0.snd.fst, false)))
 (cn (!decide (d0.fst.fst = kind))
  (some ((((0 : Int), (0 : Int), (0 : Int), ByteArray.empty), (3 : Int), false)))
  (cn (!decide (d0.fst.snd.fst = at_))
   (some ((((0 : Int), (0 : Int), (0 : Int), ByteArray.empty), (4 : Int), false)))
   (cn (decide (d0.fst.snd.snd.fst < least))
    (some ((((0 : Int), (0 : Int), (0 : Int), ByteArray.empty), (5 : Int), false)))
    (some (((d0.fst.fst, d0.fst.snd.fst, d0.fst.snd.snd.fst, d0.fst.snd.snd.snd), (0 : Int), true)))))) := (opq_eq _).trans (by kernel_rfl)
abbrev s_StateFrom.s : Sig := ⟨21, [], [.val], [.one (.row 9 .str)], [.one (.own 3 (.int .i64)), .one .bool], [], [(0, [(4,false),(5,true),(6,false)])]⟩
noncomputable def s_StateFrom.C (k : Nat) : List (Nat × Ctr) := [(64, s_l6Value.s.ctr (fun x => s_l6Value.f k x))]
noncomputable def s_StateFrom.f (k : Nat) (l : List ByteArray) : Option (List Int × Bool) := opq (s_StateFrom.s.run Try.prog (s_StateFrom.C k) k l)
theorem s_StateFrom.ok (k : Nat) : CtrOk Try.prog 21 (s_StateFrom.s.ctr (fun x => s_StateFrom.f k x)) := sig_ok s_StateFrom.s (.cons (s_l6Value.ok k) .nil) (by kernel_rfl) fun _ => opq_eq _
noncomputable def s_StateFrom.l0 (k : Nat) (m : Nat) (s4 : ByteArray) (k6 : Int) (h1 : List Int) : Option (List Int × Bool) := s_StateFrom.s.head Try.prog (s_StateFrom.C k) k 1 0 [] m [(4, AV.str s4), (5, AV.ref 1), (6, AV.int IntKind.i64 k6)] [Root.dead, Root.rows 3 (Kind.int IntKind.i64) h1]
theorem s_StateFrom.l0_z (k : Nat) (s4 : ByteArray) (k6 : Int) (h1 : List Int) : s_StateFrom.l0 k 0 s4 k6 h1 = none := by kernel_rfl
theorem s_StateFrom.l0_s (k : Nat) (m : Nat) (s4 : ByteArray) (k6 : Int) (h1 : List Int) : s_StateFrom.l0 k (m + 1) s4 k6 h1 =
 cn (decide (k6 < (6 : Int)))
 (gd (decide ((0 : Int) ≤ IntKind.i64.wrap ((2 : Int) * k6)) && (decide (IntKind.i64.wrap ((2 : Int) * k6) ≤ IntKind.i64.wrap (IntKind.i64.wrap ((2 : Int) * k6) + (2 : Int))) && decide (IntKind.i64.wrap (IntKind.i64.wrap ((2 : Int) * k6) + (2 : Int)) ≤ (↑s4.size : Int))))
  ((s_l6Value.f k (s4.extract (IntKind.i64.wrap ((2 : Int) * k6)).toNat (IntKind.i64.wrap (IntKind.i64.wrap ((2 : Int) * k6) + (2 : Int))).toNat)).bind fun d0 =>
   gd (appOk (h1.length + [d0].length) (Try.prog.bytesOf (3 : Nat)))
   (s_StateFrom.l0 k m s4 (IntKind.i64.wrap (k6 + (1 : Int))) (h1 ++ [d0]))))
 (some ((h1, true))) := by kernel_rfl
theorem s_StateFrom.f_eq (k : Nat) (l : List ByteArray) : s_StateFrom.f k l =
 cn (!decide ((↑l.length : Int) = (2 : Int)))
 (some (([], false)))
 (gd (inb (0 : Int) l.length)
  (cn (!decide ((↑(getAt ByteArray.empty l (0 : Nat)).size : Int) = (6 : Int)))
   (some (([], false)))
   (gd (inb (1 : Int) l.length)
    (cn (!decide ((↑(getAt ByteArray.empty l (1 : Nat)).size : Int) = (6 : Int)))
     (some (([], false)))
     (gd (inb (0 : Int) l.length)
      (gd (inb (1 : Int) l.length)
       (gd (decide ((getAt ByteArray.empty l (0 : Nat)).size + (getAt ByteArray.empty l (1 : Nat)).size ≤ (140737488355328 : Nat)))
        (s_StateFrom.l0 k k (getAt ByteArray.empty l (0 : Nat) ++ getAt ByteArray.empty l (1 : Nat)) ((0 : Int)) ([]))))))))) := (opq_eq _).trans (by kernel_rfl)
abbrev s_l15Recover.s : Sig := ⟨51, [], [.val], [.agg [.row 9 .str, .row 9 .str, .row 4 .bool]], [.one (.own 3 (.int .i64)), .one (.int .i64)], [], [(0, [(1,false),(6,false),(9,false),(10,true),(11,false)])]⟩
noncomputable def s_l15Recover.C (k : Nat) : List (Nat × Ctr) := [(21, s_StateFrom.s.ctr (fun x => s_StateFrom.f k x)), (66, s_l15Half.s.ctr (fun x => s_l15Half.f k x)), (98, s_l7Read.s.ctr (fun x => s_l7Read.f k x.1.1 x.1.2.1 x.1.2.2 x.2)), (99, s_CheckFrame.s.ctr (fun x => s_CheckFrame.f k x.1 x.2.1 x.2.2.1 x.2.2.2))]
noncomputable def s_l15Recover.f (k : Nat) (d_Plate : List ByteArray) (d_Held : List ByteArray) (d_Bad : List Bool) : Option (List Int × Int) := opq (s_l15Recover.s.run Try.prog (s_l15Recover.C k) k (d_Plate, d_Held, d_Bad))
theorem s_l15Recover.ok (k : Nat) : CtrOk Try.prog 51 (s_l15Recover.s.ctr (fun x => s_l15Recover.f k x.1 x.2.1 x.2.2)) := sig_ok s_l15Recover.s (.cons (s_StateFrom.ok k) (.cons (s_l15Half.ok k) (.cons (s_l7Read.ok k) (.cons (s_CheckFrame.ok k) .nil)))) (by kernel_rfl) fun _ => opq_eq _
noncomputable def s_l15Recover.l0 (k : Nat) (m : Nat) (at9 : Int) (k11 : Int) (h1 : List ByteArray) (h1_ : List ByteArray) (h1__ : List Bool) (h2 : Int) (h2_ : Int) (h2__ : Int) (h2___ : ByteArray) (h3 : List ByteArray) : Option (List Int × Int) := s_l15Recover.s.head Try.prog (s_l15Recover.C k) k 1 0 [] m [(1, AV.ptr 1 0 0), (6, AV.ptr 2 0 0), (9, AV.int IntKind.i64 at9), (10, AV.ref 3), (11, AV.int IntKind.i64 k11)] [Root.dead, Root.box 26 [AV.row 9 Kind.str h1, AV.row 9 Kind.str h1_, AV.row 4 Kind.bool h1__], Root.box 85 [AV.int IntKind.i64 h2, AV.int IntKind.i64 h2_, AV.int IntKind.i64 h2__, AV.str h2___], Root.rows 9 Kind.str h3]
theorem s_l15Recover.l0_z (k : Nat) (at9 : Int) (k11 : Int) (h1 : List ByteArray) (h1_ : List ByteArray) (h1__ : List Bool) (h2 : Int) (h2_ : Int) (h2__ : Int) (h2___ : ByteArray) (h3 : List ByteArray) : s_l15Recover.l0 k 0 at9 k11 h1 h1_ h1__ h2 h2_ h2__ h2___ h3 = none := by kernel_rfl
theorem s_l15Recover.l0_s (k : Nat) (m : Nat) (at9 : Int) (k11 : Int) (h1 : List ByteArray) (h1_ : List ByteArray) (h1__ : List Bool) (h2 : Int) (h2_ : Int) (h2__ : Int) (h2___ : ByteArray) (h3 : List ByteArray) : s_l15Recover.l0 k (m + 1) at9 k11 h1 h1_ h1__ h2 h2_ h2__ h2___ h3 =
 cn (decide (k11 < (2 : Int)))
 ((s_l7Read.f k h1 h1_ h1__ (IntKind.i64.wrap (at9 + k11))).bind fun d2 =>
  (s_CheckFrame.f k d2.fst (3 : Int) (IntKind.i64.wrap (at9 + k11)) h2__).bind fun d3 =>
  cn (!d2.snd)
  (some (([], (-1 : Int))))
  (cn (!d3.snd.snd)
   (some (([], (-1 : Int))))
   (cn (!decide (d3.fst.snd.snd.fst = h2__))
    (some (([], (-1 : Int))))
    (gd (appOk (h3.length + [d3.fst.snd.snd.snd].length) (Try.prog.bytesOf (9 : Nat)))
     (s_l15Recover.l0 k m at9 (IntKind.i64.wrap (k11 + (1 : Int))) h1 h1_ h1__ h2 h2_ h2__ h2___ (h3 ++ [d3.fst.snd.snd.snd]))))))
 ((s_StateFrom.f k h3).bind fun d2 =>
  cn (!d2.snd)
  (some (([], (-1 : Int))))
  (some ((d2.fst, h2__)))) := by kernel_rfl
theorem s_l15Recover.f_eq (k : Nat) (d_Plate : List ByteArray) (d_Held : List ByteArray) (d_Bad : List Bool) : s_l15Recover.f k d_Plate d_Held d_Bad =
 (s_l7Read.f k d_Plate d_Held d_Bad (0 : Int)).bind fun d0 =>
 (s_CheckFrame.f k d0.fst (4 : Int) (0 : Int) (0 : Int)).bind fun d1 =>
 cn (!d0.snd)
 (some (([], (-1 : Int))))
 (cn (!d1.snd.snd)
  (some (([], (-1 : Int))))
  ((s_l15Half.f k d1.fst.snd.snd.fst).bind fun d2 =>
   s_l15Recover.l0 k k d2 ((0 : Int)) d_Plate d_Held d_Bad d1.fst.fst d1.fst.snd.fst d1.fst.snd.snd.fst d1.fst.snd.snd.snd ([]))) := (opq_eq _).trans (by kernel_rfl)
abbrev s_l15Step.s : Sig := ⟨39, [.agg 7, .one], [.give, .give, .give, .val, .val, .give, .give, .val], [.one (.row 9 .str), .one (.row 9 .str), .one (.row 4 .bool), .one (.int .i64), .one (.int .i64), .one (.row 3 (.int .i64)), .one (.row 3 (.int .i64)), .agg [.int .i64, .row 3 (.int .i64), .row 3 (.int .i64)]], [.agg [.own 9 .str, .own 9 .str, .own 4 .bool, .int .i64, .int .i64, .own 3 (.int .i64), .own 3 (.int .i64)], .one .bool], [], []⟩
noncomputable def s_l15Step.C (k : Nat) : List (Nat × Ctr) := [(49, s_l15State.s.ctr (fun x => s_l15State.f k x)), (51, s_l15Recover.s.ctr (fun x => s_l15Recover.f k x.1 x.2.1 x.2.2)), (52, s_l7Crash.s.ctr (fun x => s_l7Crash.f k x.1 x.2.1 x.2.2.1 x.2.2.2)), (71, s_l15Write.s.ctr (fun x => s_l15Write.f k x.1 x.2.1 x.2.2.1 x.2.2.2.1 x.2.2.2.2.1 x.2.2.2.2.2.1 x.2.2.2.2.2.2)), (72, s_l15Put.s.ctr (fun x => s_l15Put.f k x.1 x.2.1 x.2.2.1 x.2.2.2.1 x.2.2.2.2)), (90, s_l15Sync.s.ctr (fun x => s_l15Sync.f k x.1 x.2.1 x.2.2.1 x.2.2.2.1 x.2.2.2.2.1 x.2.2.2.2.2.1 x.2.2.2.2.2.2)), (91, s_l7Kept.s.ctr (fun x => s_l7Kept.f k x.1.1 x.1.2.1 x.1.2.2 x.2))]
noncomputable def s_l15Step.f (k : Nat) (j_Disk_Plate : List ByteArray) (j_Disk_Held : List ByteArray) (j_Disk_Bad : List Bool) (j_Epoch : Int) (j_Phase : Int) (j_Acked : List Int) (j_Coming : List Int) (x_Kind : Int) (x_Values : List Int) (x_Kept : List Int) : Option ((List ByteArray × List ByteArray × List Bool × Int × Int × List Int × List Int) × Bool) := opq (s_l15Step.s.run Try.prog (s_l15Step.C k) k (j_Disk_Plate, j_Disk_Held, j_Disk_Bad, j_Epoch, j_Phase, j_Acked, j_Coming, (x_Kind, x_Values, x_Kept)))
theorem s_l15Step.ok (k : Nat) : CtrOk Try.prog 39 (s_l15Step.s.ctr (fun x => s_l15Step.f k x.1 x.2.1 x.2.2.1 x.2.2.2.1 x.2.2.2.2.1 x.2.2.2.2.2.1 x.2.2.2.2.2.2.1 x.2.2.2.2.2.2.2.1 x.2.2.2.2.2.2.2.2.1 x.2.2.2.2.2.2.2.2.2)) := sig_ok s_l15Step.s (.cons (s_l15State.ok k) (.cons (s_l15Recover.ok k) (.cons (s_l7Crash.ok k) (.cons (s_l15Write.ok k) (.cons (s_l15Put.ok k) (.cons (s_l15Sync.ok k) (.cons (s_l7Kept.ok k) .nil))))))) (by kernel_rfl) fun _ => opq_eq _
theorem s_l15Step.f_eq (k : Nat) (j_Disk_Plate : List ByteArray) (j_Disk_Held : List ByteArray) (j_Disk_Bad : List Bool) (j_Epoch : Int) (j_Phase : Int) (j_Acked : List Int) (j_Coming : List Int) (x_Kind : Int) (x_Values : List Int) (x_Kept : List Int) : s_l15Step.f k j_Disk_Plate j_Disk_Held j_Disk_Bad j_Epoch j_Phase j_Acked j_Coming x_Kind x_Values x_Kept =

 let z5 : Option ((List ByteArray × List ByteArray × List Bool × Int × Int × List Int × List Int) × Bool) := cn (decide (x_Kind = (4 : Int))) ((s_l7Kept.f k j_Disk_Plate j_Disk_Held j_Disk_Bad x_Kept).bind fun d1 => cn d1 ((s_l7Crash.f k j_Disk_Plate j_Disk_Held j_Disk_Bad x_Kept).bind fun d2 => (s_l15Recover.f k d2.snd.fst d2.snd.snd.fst d2.snd.snd.snd).bind fun d3 => some (((d2.snd.fst, d2.snd.snd.fst, d2.snd.snd.snd, d3.snd, (0 : Int) , d3.fst, []) , decide ((0 : Int) ≤ d3.snd)))) (some (((j_Disk_Plate, j_Disk_Held, j_Disk_Bad, j_Epoch, j_Phase, j_Acked, j_Coming) , false)))) (some (((j_Disk_Plate, j_Disk_Held, j_Disk_Bad, j_Epoch, j_Phase, j_Acked, j_Coming) , false)));
 let z8 : Option ((List ByteArray × List ByteArray × List Bool × Int × Int × List Int × List Int) × Bool) := (s_l15Sync.f k j_Disk_Plate j_Disk_Held j_Disk_Bad j_Epoch j_Phase j_Acked j_Coming).bind fun d0 => some (((d0.fst, d0.snd.fst, d0.snd.snd.fst, d0.snd.snd.snd.fst, d0.snd.snd.snd.snd.fst, d0.snd.snd.snd.snd.snd.fst, d0.snd.snd.snd.snd.snd.snd) , true));
 let z12 : Option ((List ByteArray × List ByteArray × List Bool × Int × Int × List Int × List Int) × Bool) := cn (decide (x_Kind = (4 : Int))) ((s_l7Kept.f k j_Disk_Plate j_Disk_Held j_Disk_Bad x_Kept).bind fun d0 => cn d0 ((s_l7Crash.f k j_Disk_Plate j_Disk_Held j_Disk_Bad x_Kept).bind fun d1 => (s_l15Recover.f k d1.snd.fst d1.snd.snd.fst d1.snd.snd.snd).bind fun d2 => some (((d1.snd.fst, d1.snd.snd.fst, d1.snd.snd.snd, d2.snd, (0 : Int) , d2.fst, []) , decide ((0 : Int) ≤ d2.snd)))) (some (((j_Disk_Plate, j_Disk_Held, j_Disk_Bad, j_Epoch, j_Phase, j_Acked, j_Coming) , false)))) (some (((j_Disk_Plate, j_Disk_Held, j_Disk_Bad, j_Epoch, j_Phase, j_Acked, j_Coming) , false)));
 let z13 : Option ((List ByteArray × List ByteArray × List Bool × Int × Int × List Int × List Int) × Bool) := cn (decide (x_Kind = (3 : Int))) (cn (decide (j_Phase = (2 : Int))) ((s_l15Write.f k j_Disk_Plate j_Disk_Held j_Disk_Bad (4 : Int) (0 : Int) (IntKind.i64.wrap (j_Epoch + (1 : Int))) ByteArray.empty).bind fun d0 => some (((d0.snd.fst, d0.snd.snd.fst, d0.snd.snd.snd, j_Epoch, (3 : Int) , j_Acked, j_Coming) , true))) z12) z12;
 let z16 : Option ((List ByteArray × List ByteArray × List Bool × Int × Int × List Int × List Int) × Bool) := cn (decide (x_Kind = (1 : Int))) (cn (decide (j_Phase = (0 : Int))) (cn (decide (j_Epoch < (60000 : Int))) ((s_l15State.f k x_Values).bind fun d0 => cn d0 ((s_l15Put.f k j_Disk_Plate j_Disk_Held j_Disk_Bad (IntKind.i64.wrap (j_Epoch + (1 : Int))) x_Values).bind fun d1 => gd (appOk ((0 : Nat) + x_Values.length) (Try.prog.bytesOf (3 : Nat))) (some (((d1.snd.fst, d1.snd.snd.fst, d1.snd.snd.snd, j_Epoch, (1 : Int) , j_Acked, [] ++ x_Values) , true)))) (cn (decide (x_Kind = (2 : Int))) ((s_l15Sync.f k j_Disk_Plate j_Disk_Held j_Disk_Bad j_Epoch j_Phase j_Acked j_Coming).bind fun d1 => some (((d1.fst, d1.snd.fst, d1.snd.snd.fst, d1.snd.snd.snd.fst, d1.snd.snd.snd.snd.fst, d1.snd.snd.snd.snd.snd.fst, d1.snd.snd.snd.snd.snd.snd) , true))) (cn (decide (x_Kind = (3 : Int))) (cn (decide (j_Phase = (2 : Int))) ((s_l15Write.f k j_Disk_Plate j_Disk_Held j_Disk_Bad (4 : Int) (0 : Int) (IntKind.i64.wrap (j_Epoch + (1 : Int))) ByteArray.empty).bind fun d1 => some (((d1.snd.fst, d1.snd.snd.fst, d1.snd.snd.snd, j_Epoch, (3 : Int) , j_Acked, j_Coming) , true))) z5) z5))) (cn (decide (x_Kind = (2 : Int))) z8 z13)) (cn (decide (x_Kind = (2 : Int))) z8 z13)) (cn (decide (x_Kind = (2 : Int))) z8 z13);
 let z18 : Option ((List ByteArray × List ByteArray × List Bool × Int × Int × List Int × List Int) × Bool) := cn (!decide (x_Kind = (4 : Int))) (cn (decide ((0 : Int) < (↑x_Kept.length : Int))) (some (((j_Disk_Plate, j_Disk_Held, j_Disk_Bad, j_Epoch, j_Phase, j_Acked, j_Coming) , false))) z16) z16;
 cn (!decide (x_Kind = (1 : Int))) (cn (decide ((0 : Int) < (↑x_Values.length : Int))) (some (((j_Disk_Plate, j_Disk_Held, j_Disk_Bad, j_Epoch, j_Phase, j_Acked, j_Coming) , false))) z18) z18 := (opq_eq _).trans (by kernel_rfl)
abbrev c_journalSteps.s : Sig := ⟨37, [], [.pbox 69], [.agg [.row 5 (.int .u8), .int .i64, .int .u64]], [.one (.row 31 (.pair (.int .i64) (.pair (.sl 3 (.int .i64)) (.sl 3 (.int .i64)))))], [.box 69 [.row 5 (.int .u8), .int .i64, .int .u64]], [(3, [(0,false),(3,true),(4,false),(5,false),(6,true),(38,true),(39,false),(40,false)]), (0, [(0,false),(3,true),(4,false),(5,false)])]⟩
noncomputable def c_journalSteps.C (k : Nat) : List (Nat × Ctr) := [(26, s_NewJournal.s.ctr (fun _ => s_NewJournal.f k)), (39, s_l15Step.s.ctr (fun x => s_l15Step.f k x.1 x.2.1 x.2.2.1 x.2.2.2.1 x.2.2.2.2.1 x.2.2.2.2.2.1 x.2.2.2.2.2.2.1 x.2.2.2.2.2.2.2.1 x.2.2.2.2.2.2.2.2.1 x.2.2.2.2.2.2.2.2.2)), (40, s_l15Own.s.ctr (fun x => s_l15Own.f k x.1 x.2.1 x.2.2.1 x.2.2.2.1 x.2.2.2.2.1 x.2.2.2.2.2.1 x.2.2.2.2.2.2)), (58, c_state15.s.ctr (fun x => c_state15.f k x.1 x.2.1 x.2.2)), (62, c_one.s.ctr (fun x => c_one.f k x.1.1 x.1.2.1 x.1.2.2 x.2)), (65, c_among.s.ctr (fun x => c_among.f k x.1.1 x.1.2.1 x.1.2.2 x.2)), (73, s_l7Held.s.ctr (fun x => s_l7Held.f k x.1 x.2.1 x.2.2)), (85, c_pick.s.ctr (fun x => c_pick.f k x.1.1 x.1.2.1 x.1.2.2 x.2))]
noncomputable def c_journalSteps.f (k : Nat) (c_code : List Int) (c_at : Int) (c_seed : Int) : Option ((List (Int × List Int × List Int)) × (List Int × Int × Int)) := opq (c_journalSteps.s.run Try.prog (c_journalSteps.C k) k (c_code, c_at, c_seed))
theorem c_journalSteps.ok (k : Nat) : CtrOk Try.prog 37 (c_journalSteps.s.ctr (fun x => c_journalSteps.f k x.1 x.2.1 x.2.2)) := sig_ok c_journalSteps.s (.cons (s_NewJournal.ok k) (.cons (s_l15Step.ok k) (.cons (s_l15Own.ok k) (.cons (c_state15.ok k) (.cons (c_one.ok k) (.cons (c_among.ok k) (.cons (s_l7Held.ok k) (.cons (c_pick.ok k) .nil)))))))) (by kernel_rfl) fun _ => opq_eq _
noncomputable def c_journalSteps.l0 (k : Nat) (m : Nat) (n5 : Int) (h1 : List Int) (h1_ : Int) (h1__ : Int) (h2 : List (Int × List Int × List Int)) (h3 : List ByteArray) (h4 : List ByteArray) (h5 : List Bool) (h6 : List Int) (h7 : List Int) (h8 : Int) (h8_ : Int) : Option ((List (Int × List Int × List Int)) × (List Int × Int × Int)) := c_journalSteps.s.head Try.prog (c_journalSteps.C k) k 2 0 [] m [(0, AV.ptr 1 0 0), (3, AV.ref 2), (4, AV.ptr 8 0 0), (5, AV.int IntKind.i64 n5)] [Root.dead, Root.box 69 [AV.row 5 (Kind.int IntKind.u8) h1, AV.int IntKind.i64 h1_, AV.int IntKind.u64 h1__], Root.rows 31 ((Kind.int IntKind.i64).pair ((Kind.sl 3 (Kind.int IntKind.i64)).pair (Kind.sl 3 (Kind.int IntKind.i64)))) h2, Root.rows 9 Kind.str h3, Root.rows 9 Kind.str h4, Root.rows 4 Kind.bool h5, Root.rows 3 (Kind.int IntKind.i64) h6, Root.rows 3 (Kind.int IntKind.i64) h7, Root.box 29 [AV.ref 3, AV.ref 4, AV.ref 5, AV.int IntKind.i64 h8, AV.int IntKind.i64 h8_, AV.ref 6, AV.ref 7]]
noncomputable def c_journalSteps.l3 (k : Nat) (n0 : Nat) (m : Nat) (n5 : Int) (t39 : Int) (t40 : Int) (h1 : List Int) (h1_ : Int) (h1__ : Int) (h2 : List (Int × List Int × List Int)) (h3 : List ByteArray) (h4 : List ByteArray) (h5 : List Bool) (h6 : List Int) (h7 : List Int) (h8 : Int) (h8_ : Int) (h9 : List Int) (h10 : List Int) (h11 : Int) (h12 : List Int) : Option ((List (Int × List Int × List Int)) × (List Int × Int × Int)) := c_journalSteps.s.head Try.prog (c_journalSteps.C k) k 2 3 [n0] m [(0, AV.ptr 1 0 0), (3, AV.ref 2), (4, AV.ptr 8 0 0), (5, AV.int IntKind.i64 n5), (6, AV.ptr 11 0 0), (38, AV.ref 12), (39, AV.int IntKind.i64 t39), (40, AV.int IntKind.i64 t40)] [Root.dead, Root.box 69 [AV.row 5 (Kind.int IntKind.u8) h1, AV.int IntKind.i64 h1_, AV.int IntKind.u64 h1__], Root.rows 31 ((Kind.int IntKind.i64).pair ((Kind.sl 3 (Kind.int IntKind.i64)).pair (Kind.sl 3 (Kind.int IntKind.i64)))) h2, Root.rows 9 Kind.str h3, Root.rows 9 Kind.str h4, Root.rows 4 Kind.bool h5, Root.rows 3 (Kind.int IntKind.i64) h6, Root.rows 3 (Kind.int IntKind.i64) h7, Root.box 29 [AV.ref 3, AV.ref 4, AV.ref 5, AV.int IntKind.i64 h8, AV.int IntKind.i64 h8_, AV.ref 6, AV.ref 7], Root.rows 3 (Kind.int IntKind.i64) h9, Root.rows 3 (Kind.int IntKind.i64) h10, Root.box 31 [AV.int IntKind.i64 h11, AV.ref 9, AV.ref 10], Root.rows 3 (Kind.int IntKind.i64) h12]
theorem c_journalSteps.l0_z (k : Nat) (n5 : Int) (h1 : List Int) (h1_ : Int) (h1__ : Int) (h2 : List (Int × List Int × List Int)) (h3 : List ByteArray) (h4 : List ByteArray) (h5 : List Bool) (h6 : List Int) (h7 : List Int) (h8 : Int) (h8_ : Int) : c_journalSteps.l0 k 0 n5 h1 h1_ h1__ h2 h3 h4 h5 h6 h7 h8 h8_ = none := by kernel_rfl
theorem c_journalSteps.l0_s (k : Nat) (m : Nat) (n5 : Int) (h1 : List Int) (h1_ : Int) (h1__ : Int) (h2 : List (Int × List Int × List Int)) (h3 : List ByteArray) (h4 : List ByteArray) (h5 : List Bool) (h6 : List Int) (h7 : List Int) (h8 : Int) (h8_ : Int) : c_journalSteps.l0 k (m + 1) n5 h1 h1_ h1__ h2 h3 h4 h5 h6 h7 h8 h8_ =
 cn (decide ((0 : Int) < n5))
 ((c_among.f k h1 h1_ h1__ [(1 : Int), (2 : Int), (2 : Int), (2 : Int), (3 : Int), (3 : Int), (4 : Int)]).bind fun d4 =>
  cn (decide (d4.fst = (1 : Int)))
  ((c_state15.f k d4.snd.fst d4.snd.snd.fst d4.snd.snd.snd).bind fun d5 =>
   (c_one.f k d5.snd.fst d5.snd.snd.fst d5.snd.snd.snd (60 : Int)).bind fun d6 =>
   cn d6.fst
   ((c_pick.f k d6.snd.fst d6.snd.snd.fst d6.snd.snd.snd (6 : Int)).bind fun d7 =>
    (c_pick.f k d7.snd.fst d7.snd.snd.fst d7.snd.snd.snd (6 : Int)).bind fun d8 =>
    both
    ((s_l15Own.f k h3 h4 h5 h8 h8_ h6 h7).bind fun d9 =>
     dup
     ((s_l15Step.f k d9.fst d9.snd.fst d9.snd.snd.fst d9.snd.snd.snd.fst d9.snd.snd.snd.snd.fst d9.snd.snd.snd.snd.snd.fst d9.snd.snd.snd.snd.snd.snd d7.fst [] [d8.fst]).bind fun d10 =>
      cn d10.snd
      (gd (appOk (h2.length + (1 : Nat)) (Try.prog.bytesOf (31 : Nat)))
       (c_journalSteps.l0 k m (IntKind.i64.wrap (n5 - (1 : Int))) d8.snd.fst d8.snd.snd.fst d8.snd.snd.snd (h2 ++ [(d7.fst, [], [d8.fst])]) d10.fst.fst d10.fst.snd.fst d10.fst.snd.snd.fst d10.fst.snd.snd.snd.snd.snd.fst d10.fst.snd.snd.snd.snd.snd.snd d10.fst.snd.snd.snd.fst d10.fst.snd.snd.snd.snd.fst))
      (gd (appOk (h2.length + (1 : Nat)) (Try.prog.bytesOf (31 : Nat)))
       (c_journalSteps.l0 k m (IntKind.i64.wrap (n5 - (1 : Int))) d8.snd.fst d8.snd.snd.fst d8.snd.snd.snd (h2 ++ [(d7.fst, [], [d8.fst])]) h3 h4 h5 h6 h7 h8 h8_))))
    ((s_l15Own.f k h3 h4 h5 h8 h8_ h6 h7).bind fun d9 =>
     (s_l15Step.f k d9.fst d9.snd.fst d9.snd.snd.fst d9.snd.snd.snd.fst d9.snd.snd.snd.snd.fst d9.snd.snd.snd.snd.snd.fst d9.snd.snd.snd.snd.snd.snd d7.fst [] [d8.fst]).bind fun d10 =>
     cn d10.snd
     (gd (appOk (h2.length + (1 : Nat)) (Try.prog.bytesOf (31 : Nat)))
      (c_journalSteps.l0 k m (IntKind.i64.wrap (n5 - (1 : Int))) d8.snd.fst d8.snd.snd.fst d8.snd.snd.snd (h2 ++ [(d7.fst, [], [d8.fst])]) d10.fst.fst d10.fst.snd.fst d10.fst.snd.snd.fst d10.fst.snd.snd.snd.snd.snd.fst d10.fst.snd.snd.snd.snd.snd.snd d10.fst.snd.snd.snd.fst d10.fst.snd.snd.snd.snd.fst))
     (gd (appOk (h2.length + (1 : Nat)) (Try.prog.bytesOf (31 : Nat)))
      (c_journalSteps.l0 k m (IntKind.i64.wrap (n5 - (1 : Int))) d8.snd.fst d8.snd.snd.fst d8.snd.snd.snd (h2 ++ [(d7.fst, [], [d8.fst])]) h3 h4 h5 h6 h7 h8 h8_))))
   (both
    ((s_l15Own.f k h3 h4 h5 h8 h8_ h6 h7).bind fun d7 =>
     dup
     ((s_l15Step.f k d7.fst d7.snd.fst d7.snd.snd.fst d7.snd.snd.snd.fst d7.snd.snd.snd.snd.fst d7.snd.snd.snd.snd.snd.fst d7.snd.snd.snd.snd.snd.snd d4.fst d5.fst []).bind fun d8 =>
      cn d8.snd
      (gd (appOk (h2.length + (1 : Nat)) (Try.prog.bytesOf (31 : Nat)))
       (c_journalSteps.l0 k m (IntKind.i64.wrap (n5 - (1 : Int))) d6.snd.fst d6.snd.snd.fst d6.snd.snd.snd (h2 ++ [(d4.fst, d5.fst, [])]) d8.fst.fst d8.fst.snd.fst d8.fst.snd.snd.fst d8.fst.snd.snd.snd.snd.snd.fst d8.fst.snd.snd.snd.snd.snd.snd d8.fst.snd.snd.snd.fst d8.fst.snd.snd.snd.snd.fst))
      (gd (appOk (h2.length + (1 : Nat)) (Try.prog.bytesOf (31 : Nat)))
       (c_journalSteps.l0 k m (IntKind.i64.wrap (n5 - (1 : Int))) d6.snd.fst d6.snd.snd.fst d6.snd.snd.snd (h2 ++ [(d4.fst, d5.fst, [])]) h3 h4 h5 h6 h7 h8 h8_))))
    ((s_l15Own.f k h3 h4 h5 h8 h8_ h6 h7).bind fun d7 =>
     (s_l15Step.f k d7.fst d7.snd.fst d7.snd.snd.fst d7.snd.snd.snd.fst d7.snd.snd.snd.snd.fst d7.snd.snd.snd.snd.snd.fst d7.snd.snd.snd.snd.snd.snd d4.fst d5.fst []).bind fun d8 =>
     cn d8.snd
     (gd (appOk (h2.length + (1 : Nat)) (Try.prog.bytesOf (31 : Nat)))
      (c_journalSteps.l0 k m (IntKind.i64.wrap (n5 - (1 : Int))) d6.snd.fst d6.snd.snd.fst d6.snd.snd.snd (h2 ++ [(d4.fst, d5.fst, [])]) d8.fst.fst d8.fst.snd.fst d8.fst.snd.snd.fst d8.fst.snd.snd.snd.snd.snd.fst d8.fst.snd.snd.snd.snd.snd.snd d8.fst.snd.snd.snd.fst d8.fst.snd.snd.snd.snd.fst))
     (gd (appOk (h2.length + (1 : Nat)) (Try.prog.bytesOf (31 : Nat)))
      (c_journalSteps.l0 k m (IntKind.i64.wrap (n5 - (1 : Int))) d6.snd.fst d6.snd.snd.fst d6.snd.snd.snd (h2 ++ [(d4.fst, d5.fst, [])]) h3 h4 h5 h6 h7 h8 h8_)))))
  (cn (decide (d4.fst = (4 : Int)))
   ((s_l7Held.f k h3 h4 h5).bind fun d5 =>
    c_journalSteps.l3 k m k n5 ((↑(List.length d5) : Int)) ((0 : Int)) d4.snd.fst d4.snd.snd.fst d4.snd.snd.snd h2 h3 h4 h5 h6 h7 h8 h8_ ([]) ([]) d4.fst d5)
   ((c_one.f k d4.snd.fst d4.snd.snd.fst d4.snd.snd.snd (60 : Int)).bind fun d5 =>
    cn d5.fst
    ((c_pick.f k d5.snd.fst d5.snd.snd.fst d5.snd.snd.snd (6 : Int)).bind fun d6 =>
     (c_pick.f k d6.snd.fst d6.snd.snd.fst d6.snd.snd.snd (6 : Int)).bind fun d7 =>
     both
     ((s_l15Own.f k h3 h4 h5 h8 h8_ h6 h7).bind fun d8 =>
      dup
      ((s_l15Step.f k d8.fst d8.snd.fst d8.snd.snd.fst d8.snd.snd.snd.fst d8.snd.snd.snd.snd.fst d8.snd.snd.snd.snd.snd.fst d8.snd.snd.snd.snd.snd.snd d6.fst [] [d7.fst]).bind fun d9 =>
       cn d9.snd
       (gd (appOk (h2.length + (1 : Nat)) (Try.prog.bytesOf (31 : Nat)))
        (c_journalSteps.l0 k m (IntKind.i64.wrap (n5 - (1 : Int))) d7.snd.fst d7.snd.snd.fst d7.snd.snd.snd (h2 ++ [(d6.fst, [], [d7.fst])]) d9.fst.fst d9.fst.snd.fst d9.fst.snd.snd.fst d9.fst.snd.snd.snd.snd.snd.fst d9.fst.snd.snd.snd.snd.snd.snd d9.fst.snd.snd.snd.fst d9.fst.snd.snd.snd.snd.fst))
       (gd (appOk (h2.length + (1 : Nat)) (Try.prog.bytesOf (31 : Nat)))
        (c_journalSteps.l0 k m (IntKind.i64.wrap (n5 - (1 : Int))) d7.snd.fst d7.snd.snd.fst d7.snd.snd.snd (h2 ++ [(d6.fst, [], [d7.fst])]) h3 h4 h5 h6 h7 h8 h8_))))
     ((s_l15Own.f k h3 h4 h5 h8 h8_ h6 h7).bind fun d8 =>
      (s_l15Step.f k d8.fst d8.snd.fst d8.snd.snd.fst d8.snd.snd.snd.fst d8.snd.snd.snd.snd.fst d8.snd.snd.snd.snd.snd.fst d8.snd.snd.snd.snd.snd.snd d6.fst [] [d7.fst]).bind fun d9 =>
      cn d9.snd
      (gd (appOk (h2.length + (1 : Nat)) (Try.prog.bytesOf (31 : Nat)))
       (c_journalSteps.l0 k m (IntKind.i64.wrap (n5 - (1 : Int))) d7.snd.fst d7.snd.snd.fst d7.snd.snd.snd (h2 ++ [(d6.fst, [], [d7.fst])]) d9.fst.fst d9.fst.snd.fst d9.fst.snd.snd.fst d9.fst.snd.snd.snd.snd.snd.fst d9.fst.snd.snd.snd.snd.snd.snd d9.fst.snd.snd.snd.fst d9.fst.snd.snd.snd.snd.fst))
      (gd (appOk (h2.length + (1 : Nat)) (Try.prog.bytesOf (31 : Nat)))
       (c_journalSteps.l0 k m (IntKind.i64.wrap (n5 - (1 : Int))) d7.snd.fst d7.snd.snd.fst d7.snd.snd.snd (h2 ++ [(d6.fst, [], [d7.fst])]) h3 h4 h5 h6 h7 h8 h8_))))
    (both
     ((s_l15Own.f k h3 h4 h5 h8 h8_ h6 h7).bind fun d6 =>
      dup
      ((s_l15Step.f k d6.fst d6.snd.fst d6.snd.snd.fst d6.snd.snd.snd.fst d6.snd.snd.snd.snd.fst d6.snd.snd.snd.snd.snd.fst d6.snd.snd.snd.snd.snd.snd d4.fst [] []).bind fun d7 =>
       cn d7.snd
       (gd (appOk (h2.length + (1 : Nat)) (Try.prog.bytesOf (31 : Nat)))
        (c_journalSteps.l0 k m (IntKind.i64.wrap (n5 - (1 : Int))) d5.snd.fst d5.snd.snd.fst d5.snd.snd.snd (h2 ++ [(d4.fst, [], [])]) d7.fst.fst d7.fst.snd.fst d7.fst.snd.snd.fst d7.fst.snd.snd.snd.snd.snd.fst d7.fst.snd.snd.snd.snd.snd.snd d7.fst.snd.snd.snd.fst d7.fst.snd.snd.snd.snd.fst))
       (gd (appOk (h2.length + (1 : Nat)) (Try.prog.bytesOf (31 : Nat)))
        (c_journalSteps.l0 k m (IntKind.i64.wrap (n5 - (1 : Int))) d5.snd.fst d5.snd.snd.fst d5.snd.snd.snd (h2 ++ [(d4.fst, [], [])]) h3 h4 h5 h6 h7 h8 h8_))))
     ((s_l15Own.f k h3 h4 h5 h8 h8_ h6 h7).bind fun d6 =>
      (s_l15Step.f k d6.fst d6.snd.fst d6.snd.snd.fst d6.snd.snd.snd.fst d6.snd.snd.snd.snd.fst d6.snd.snd.snd.snd.snd.fst d6.snd.snd.snd.snd.snd.snd d4.fst [] []).bind fun d7 =>
      cn d7.snd
      (gd (appOk (h2.length + (1 : Nat)) (Try.prog.bytesOf (31 : Nat)))
       (c_journalSteps.l0 k m (IntKind.i64.wrap (n5 - (1 : Int))) d5.snd.fst d5.snd.snd.fst d5.snd.snd.snd (h2 ++ [(d4.fst, [], [])]) d7.fst.fst d7.fst.snd.fst d7.fst.snd.snd.fst d7.fst.snd.snd.snd.snd.snd.fst d7.fst.snd.snd.snd.snd.snd.snd d7.fst.snd.snd.snd.fst d7.fst.snd.snd.snd.snd.fst))
      (gd (appOk (h2.length + (1 : Nat)) (Try.prog.bytesOf (31 : Nat)))
       (c_journalSteps.l0 k m (IntKind.i64.wrap (n5 - (1 : Int))) d5.snd.fst d5.snd.snd.fst d5.snd.snd.snd (h2 ++ [(d4.fst, [], [])]) h3 h4 h5 h6 h7 h8 h8_)))))))
 (some ((h2, h1, h1_, h1__))) := by kernel_rfl
theorem c_journalSteps.l3_z (k : Nat) (n0 : Nat) (n5 : Int) (t39 : Int) (t40 : Int) (h1 : List Int) (h1_ : Int) (h1__ : Int) (h2 : List (Int × List Int × List Int)) (h3 : List ByteArray) (h4 : List ByteArray) (h5 : List Bool) (h6 : List Int) (h7 : List Int) (h8 : Int) (h8_ : Int) (h9 : List Int) (h10 : List Int) (h11 : Int) (h12 : List Int) : c_journalSteps.l3 k n0 0 n5 t39 t40 h1 h1_ h1__ h2 h3 h4 h5 h6 h7 h8 h8_ h9 h10 h11 h12 = none := by kernel_rfl
theorem c_journalSteps.l3_s (k : Nat) (n0 : Nat) (m : Nat) (n5 : Int) (t39 : Int) (t40 : Int) (h1 : List Int) (h1_ : Int) (h1__ : Int) (h2 : List (Int × List Int × List Int)) (h3 : List ByteArray) (h4 : List ByteArray) (h5 : List Bool) (h6 : List Int) (h7 : List Int) (h8 : Int) (h8_ : Int) (h9 : List Int) (h10 : List Int) (h11 : Int) (h12 : List Int) : c_journalSteps.l3 k n0 (m + 1) n5 t39 t40 h1 h1_ h1__ h2 h3 h4 h5 h6 h7 h8 h8_ h9 h10 h11 h12 =
 cn (decide (t40 < t39))
 (gd (inb t40 h12.length)
  ((c_one.f k h1 h1_ h1__ (2 : Int)).bind fun d11 =>
   cn d11.fst
   (gd (appOk (h10.length + [getAt (0 : Int) h12 t40.toNat].length) (Try.prog.bytesOf (3 : Nat)))
    (c_journalSteps.l3 k n0 m n5 t39 (IntKind.i64.wrap (t40 + (1 : Int))) d11.snd.fst d11.snd.snd.fst d11.snd.snd.snd h2 h3 h4 h5 h6 h7 h8 h8_ h9 (h10 ++ [getAt (0 : Int) h12 t40.toNat]) h11 h12))
   (c_journalSteps.l3 k n0 m n5 t39 (IntKind.i64.wrap (t40 + (1 : Int))) d11.snd.fst d11.snd.snd.fst d11.snd.snd.snd h2 h3 h4 h5 h6 h7 h8 h8_ h9 h10 h11 h12)))
 ((c_one.f k h1 h1_ h1__ (60 : Int)).bind fun d11 =>
  cn d11.fst
  ((c_pick.f k d11.snd.fst d11.snd.snd.fst d11.snd.snd.snd (6 : Int)).bind fun d12 =>
   (c_pick.f k d12.snd.fst d12.snd.snd.fst d12.snd.snd.snd (6 : Int)).bind fun d13 =>
   both
   ((s_l15Own.f k h3 h4 h5 h8 h8_ h6 h7).bind fun d14 =>
    dup
    ((s_l15Step.f k d14.fst d14.snd.fst d14.snd.snd.fst d14.snd.snd.snd.fst d14.snd.snd.snd.snd.fst d14.snd.snd.snd.snd.snd.fst d14.snd.snd.snd.snd.snd.snd d12.fst [] [d13.fst]).bind fun d15 =>
     cn d15.snd
     (gd (appOk (h2.length + (1 : Nat)) (Try.prog.bytesOf (31 : Nat)))
      (c_journalSteps.l0 k n0 (IntKind.i64.wrap (n5 - (1 : Int))) d13.snd.fst d13.snd.snd.fst d13.snd.snd.snd (h2 ++ [(d12.fst, [], [d13.fst])]) d15.fst.fst d15.fst.snd.fst d15.fst.snd.snd.fst d15.fst.snd.snd.snd.snd.snd.fst d15.fst.snd.snd.snd.snd.snd.snd d15.fst.snd.snd.snd.fst d15.fst.snd.snd.snd.snd.fst))
     (gd (appOk (h2.length + (1 : Nat)) (Try.prog.bytesOf (31 : Nat)))
      (c_journalSteps.l0 k n0 (IntKind.i64.wrap (n5 - (1 : Int))) d13.snd.fst d13.snd.snd.fst d13.snd.snd.snd (h2 ++ [(d12.fst, [], [d13.fst])]) h3 h4 h5 h6 h7 h8 h8_))))
   ((s_l15Own.f k h3 h4 h5 h8 h8_ h6 h7).bind fun d14 =>
    (s_l15Step.f k d14.fst d14.snd.fst d14.snd.snd.fst d14.snd.snd.snd.fst d14.snd.snd.snd.snd.fst d14.snd.snd.snd.snd.snd.fst d14.snd.snd.snd.snd.snd.snd d12.fst [] [d13.fst]).bind fun d15 =>
    cn d15.snd
    (gd (appOk (h2.length + (1 : Nat)) (Try.prog.bytesOf (31 : Nat)))
     (c_journalSteps.l0 k n0 (IntKind.i64.wrap (n5 - (1 : Int))) d13.snd.fst d13.snd.snd.fst d13.snd.snd.snd (h2 ++ [(d12.fst, [], [d13.fst])]) d15.fst.fst d15.fst.snd.fst d15.fst.snd.snd.fst d15.fst.snd.snd.snd.snd.snd.fst d15.fst.snd.snd.snd.snd.snd.snd d15.fst.snd.snd.snd.fst d15.fst.snd.snd.snd.snd.fst))
    (gd (appOk (h2.length + (1 : Nat)) (Try.prog.bytesOf (31 : Nat)))
     (c_journalSteps.l0 k n0 (IntKind.i64.wrap (n5 - (1 : Int))) d13.snd.fst d13.snd.snd.fst d13.snd.snd.snd (h2 ++ [(d12.fst, [], [d13.fst])]) h3 h4 h5 h6 h7 h8 h8_))))
  (both
   ((s_l15Own.f k h3 h4 h5 h8 h8_ h6 h7).bind fun d12 =>
    dup
    ((s_l15Step.f k d12.fst d12.snd.fst d12.snd.snd.fst d12.snd.snd.snd.fst d12.snd.snd.snd.snd.fst d12.snd.snd.snd.snd.snd.fst d12.snd.snd.snd.snd.snd.snd h11 h9 h10).bind fun d13 =>
     cn d13.snd
     (gd (appOk (h2.length + (1 : Nat)) (Try.prog.bytesOf (31 : Nat)))
      (c_journalSteps.l0 k n0 (IntKind.i64.wrap (n5 - (1 : Int))) d11.snd.fst d11.snd.snd.fst d11.snd.snd.snd (h2 ++ [(h11, h9, h10)]) d13.fst.fst d13.fst.snd.fst d13.fst.snd.snd.fst d13.fst.snd.snd.snd.snd.snd.fst d13.fst.snd.snd.snd.snd.snd.snd d13.fst.snd.snd.snd.fst d13.fst.snd.snd.snd.snd.fst))
     (gd (appOk (h2.length + (1 : Nat)) (Try.prog.bytesOf (31 : Nat)))
      (c_journalSteps.l0 k n0 (IntKind.i64.wrap (n5 - (1 : Int))) d11.snd.fst d11.snd.snd.fst d11.snd.snd.snd (h2 ++ [(h11, h9, h10)]) h3 h4 h5 h6 h7 h8 h8_))))
   ((s_l15Own.f k h3 h4 h5 h8 h8_ h6 h7).bind fun d12 =>
    (s_l15Step.f k d12.fst d12.snd.fst d12.snd.snd.fst d12.snd.snd.snd.fst d12.snd.snd.snd.snd.fst d12.snd.snd.snd.snd.snd.fst d12.snd.snd.snd.snd.snd.snd h11 h9 h10).bind fun d13 =>
    cn d13.snd
    (gd (appOk (h2.length + (1 : Nat)) (Try.prog.bytesOf (31 : Nat)))
     (c_journalSteps.l0 k n0 (IntKind.i64.wrap (n5 - (1 : Int))) d11.snd.fst d11.snd.snd.fst d11.snd.snd.snd (h2 ++ [(h11, h9, h10)]) d13.fst.fst d13.fst.snd.fst d13.fst.snd.snd.fst d13.fst.snd.snd.snd.snd.snd.fst d13.fst.snd.snd.snd.snd.snd.snd d13.fst.snd.snd.snd.fst d13.fst.snd.snd.snd.snd.fst))
    (gd (appOk (h2.length + (1 : Nat)) (Try.prog.bytesOf (31 : Nat)))
     (c_journalSteps.l0 k n0 (IntKind.i64.wrap (n5 - (1 : Int))) d11.snd.fst d11.snd.snd.fst d11.snd.snd.snd (h2 ++ [(h11, h9, h10)]) h3 h4 h5 h6 h7 h8 h8_))))) := by kernel_rfl
theorem c_journalSteps.f_eq (k : Nat) (c_code : List Int) (c_at : Int) (c_seed : Int) : c_journalSteps.f k c_code c_at c_seed =
 (s_NewJournal.f k).bind fun d0 =>
 (c_pick.f k c_code c_at c_seed (20 : Int)).bind fun d1 =>
 (c_one.f k d1.snd.fst d1.snd.snd.fst d1.snd.snd.snd (20 : Int)).bind fun d2 =>
 cn d2.fst
 ((c_pick.f k d2.snd.fst d2.snd.snd.fst d2.snd.snd.snd (3 : Int)).bind fun d3 =>
  c_journalSteps.l0 k k (IntKind.i64.wrap ((59 : Int) + d3.fst)) d3.snd.fst d3.snd.snd.fst d3.snd.snd.snd ([]) d0.fst d0.snd.fst d0.snd.snd.fst d0.snd.snd.snd.snd.snd.fst d0.snd.snd.snd.snd.snd.snd d0.snd.snd.snd.fst d0.snd.snd.snd.snd.fst)
 (c_journalSteps.l0 k k d1.fst d2.snd.fst d2.snd.snd.fst d2.snd.snd.snd ([]) d0.fst d0.snd.fst d0.snd.snd.fst d0.snd.snd.snd.snd.snd.fst d0.snd.snd.snd.snd.snd.snd d0.snd.snd.snd.fst d0.snd.snd.snd.snd.fst) := (opq_eq _).trans (by kernel_rfl)
abbrev s_PlayJournal.s : Sig := ⟨84, [], [.val], [.one (.row 31 (.pair (.int .i64) (.pair (.sl 3 (.int .i64)) (.sl 3 (.int .i64)))))], [.agg [.own 9 .str, .own 9 .str, .own 4 .bool, .int .i64, .int .i64, .own 3 (.int .i64), .own 3 (.int .i64)], .one (.own 4 .bool), .one .bool], [], [(0, [(2,false),(5,false),(6,true),(16,true),(17,false),(18,false)])]⟩
noncomputable def s_PlayJournal.C (k : Nat) : List (Nat × Ctr) := [(26, s_NewJournal.s.ctr (fun _ => s_NewJournal.f k)), (39, s_l15Step.s.ctr (fun x => s_l15Step.f k x.1 x.2.1 x.2.2.1 x.2.2.2.1 x.2.2.2.2.1 x.2.2.2.2.2.1 x.2.2.2.2.2.2.1 x.2.2.2.2.2.2.2.1 x.2.2.2.2.2.2.2.2.1 x.2.2.2.2.2.2.2.2.2)), (40, s_l15Own.s.ctr (fun x => s_l15Own.f k x.1 x.2.1 x.2.2.1 x.2.2.2.1 x.2.2.2.2.1 x.2.2.2.2.2.1 x.2.2.2.2.2.2))]
noncomputable def s_PlayJournal.f (k : Nat) (l : List (Int × List Int × List Int)) : Option ((List ByteArray × List ByteArray × List Bool × Int × Int × List Int × List Int) × List Bool × Bool) := opq (s_PlayJournal.s.run Try.prog (s_PlayJournal.C k) k l)
theorem s_PlayJournal.ok (k : Nat) : CtrOk Try.prog 84 (s_PlayJournal.s.ctr (fun x => s_PlayJournal.f k x)) := sig_ok s_PlayJournal.s (.cons (s_NewJournal.ok k) (.cons (s_l15Step.ok k) (.cons (s_l15Own.ok k) .nil))) (by kernel_rfl) fun _ => opq_eq _
noncomputable def s_PlayJournal.l0 (k : Nat) (m : Nat) (t16 : List (Int × List Int × List Int)) (t17 : Int) (t18 : Int) (h1 : Int) (h1_ : Int) (h2 : List ByteArray) (h3 : List ByteArray) (h4 : List Bool) (h5 : List Int) (h6 : List Int) (h7 : Int) (h7_ : Int) (h8 : List Bool) : Option ((List ByteArray × List ByteArray × List Bool × Int × Int × List Int × List Int) × List Bool × Bool) := s_PlayJournal.s.head Try.prog (s_PlayJournal.C k) k 1 0 [] m [(2, AV.ptr 1 0 0), (5, AV.ptr 7 0 0), (6, AV.ref 8), (16, AV.row 31 ((Kind.int IntKind.i64).pair ((Kind.sl 3 (Kind.int IntKind.i64)).pair (Kind.sl 3 (Kind.int IntKind.i64)))) t16), (17, AV.int IntKind.i64 t17), (18, AV.int IntKind.i64 t18)] [Root.dead, Root.box 29 [AV.nil 9 Kind.str, AV.nil 9 Kind.str, AV.nil 4 Kind.bool, AV.int IntKind.i64 h1, AV.int IntKind.i64 h1_, AV.nil 3 (Kind.int IntKind.i64), AV.nil 3 (Kind.int IntKind.i64)], Root.rows 9 Kind.str h2, Root.rows 9 Kind.str h3, Root.rows 4 Kind.bool h4, Root.rows 3 (Kind.int IntKind.i64) h5, Root.rows 3 (Kind.int IntKind.i64) h6, Root.box 29 [AV.ref 2, AV.ref 3, AV.ref 4, AV.int IntKind.i64 h7, AV.int IntKind.i64 h7_, AV.ref 5, AV.ref 6], Root.rows 4 Kind.bool h8]
theorem s_PlayJournal.l0_z (k : Nat) (t16 : List (Int × List Int × List Int)) (t17 : Int) (t18 : Int) (h1 : Int) (h1_ : Int) (h2 : List ByteArray) (h3 : List ByteArray) (h4 : List Bool) (h5 : List Int) (h6 : List Int) (h7 : Int) (h7_ : Int) (h8 : List Bool) : s_PlayJournal.l0 k 0 t16 t17 t18 h1 h1_ h2 h3 h4 h5 h6 h7 h7_ h8 = none := by kernel_rfl
theorem s_PlayJournal.l0_s (k : Nat) (m : Nat) (t16 : List (Int × List Int × List Int)) (t17 : Int) (t18 : Int) (h1 : Int) (h1_ : Int) (h2 : List ByteArray) (h3 : List ByteArray) (h4 : List Bool) (h5 : List Int) (h6 : List Int) (h7 : Int) (h7_ : Int) (h8 : List Bool) : s_PlayJournal.l0 k (m + 1) t16 t17 t18 h1 h1_ h2 h3 h4 h5 h6 h7 h7_ h8 =
 cn (decide (t18 < t17))
 (gd (inb t18 t16.length)
  (both
   ((s_l15Own.f k h2 h3 h4 h7 h7_ h5 h6).bind fun d0 =>
    dup
    ((s_l15Step.f k d0.fst d0.snd.fst d0.snd.snd.fst d0.snd.snd.snd.fst d0.snd.snd.snd.snd.fst d0.snd.snd.snd.snd.snd.fst d0.snd.snd.snd.snd.snd.snd (getAt ((0 : Int), [], []) t16 t18.toNat).fst (getAt ((0 : Int), [], []) t16 t18.toNat).snd.fst (getAt ((0 : Int), [], []) t16 t18.toNat).snd.snd).bind fun d1 =>
     cn d1.snd
     (gd (appOk (h8.length + [d1.snd].length) (Try.prog.bytesOf (4 : Nat)))
      (s_PlayJournal.l0 k m t16 t17 (IntKind.i64.wrap (t18 + (1 : Int))) h1 h1_ d1.fst.fst d1.fst.snd.fst d1.fst.snd.snd.fst d1.fst.snd.snd.snd.snd.snd.fst d1.fst.snd.snd.snd.snd.snd.snd d1.fst.snd.snd.snd.fst d1.fst.snd.snd.snd.snd.fst (h8 ++ [d1.snd])))
     (gd (appOk (h8.length + [d1.snd].length) (Try.prog.bytesOf (4 : Nat)))
      (s_PlayJournal.l0 k m t16 t17 (IntKind.i64.wrap (t18 + (1 : Int))) h1 h1_ h2 h3 h4 h5 h6 h7 h7_ (h8 ++ [d1.snd])))))
   ((s_l15Own.f k h2 h3 h4 h7 h7_ h5 h6).bind fun d0 =>
    (s_l15Step.f k d0.fst d0.snd.fst d0.snd.snd.fst d0.snd.snd.snd.fst d0.snd.snd.snd.snd.fst d0.snd.snd.snd.snd.snd.fst d0.snd.snd.snd.snd.snd.snd (getAt ((0 : Int), [], []) t16 t18.toNat).fst (getAt ((0 : Int), [], []) t16 t18.toNat).snd.fst (getAt ((0 : Int), [], []) t16 t18.toNat).snd.snd).bind fun d1 =>
    cn d1.snd
    (gd (appOk (h8.length + [d1.snd].length) (Try.prog.bytesOf (4 : Nat)))
     (s_PlayJournal.l0 k m t16 t17 (IntKind.i64.wrap (t18 + (1 : Int))) h1 h1_ d1.fst.fst d1.fst.snd.fst d1.fst.snd.snd.fst d1.fst.snd.snd.snd.snd.snd.fst d1.fst.snd.snd.snd.snd.snd.snd d1.fst.snd.snd.snd.fst d1.fst.snd.snd.snd.snd.fst (h8 ++ [d1.snd])))
    (gd (appOk (h8.length + [d1.snd].length) (Try.prog.bytesOf (4 : Nat)))
     (s_PlayJournal.l0 k m t16 t17 (IntKind.i64.wrap (t18 + (1 : Int))) h1 h1_ h2 h3 h4 h5 h6 h7 h7_ (h8 ++ [d1.snd]))))))
 ((s_l15Own.f k h2 h3 h4 h7 h7_ h5 h6).bind fun d0 =>
  some (((d0.fst, d0.snd.fst, d0.snd.snd.fst, d0.snd.snd.snd.fst, d0.snd.snd.snd.snd.fst, d0.snd.snd.snd.snd.snd.fst, d0.snd.snd.snd.snd.snd.snd), h8, true))) := by kernel_rfl
theorem s_PlayJournal.f_eq (k : Nat) (l : List (Int × List Int × List Int)) : s_PlayJournal.f k l =
 cn (decide ((60 : Int) < (↑l.length : Int)))
 (some ((([], [], [], (0 : Int), (0 : Int), [], []), [], false)))
 ((s_NewJournal.f k).bind fun d0 =>
  s_PlayJournal.l0 k k l ((↑l.length : Int)) ((0 : Int)) ((0 : Int)) ((0 : Int)) d0.fst d0.snd.fst d0.snd.snd.fst d0.snd.snd.snd.snd.snd.fst d0.snd.snd.snd.snd.snd.snd d0.snd.snd.snd.fst d0.snd.snd.snd.snd.fst ([])) := (opq_eq _).trans (by kernel_rfl)
abbrev c_journal.s : Sig := ⟨36, [], [.pbox 69], [.agg [.row 5 (.int .u8), .int .i64, .int .u64]], [.agg [.own 9 .str, .own 9 .str, .own 4 .bool, .int .i64, .int .i64, .own 3 (.int .i64), .own 3 (.int .i64)]], [.box 69 [.row 5 (.int .u8), .int .i64, .int .u64]], []⟩
noncomputable def c_journal.C (k : Nat) : List (Nat × Ctr) := [(26, s_NewJournal.s.ctr (fun _ => s_NewJournal.f k)), (37, c_journalSteps.s.ctr (fun x => c_journalSteps.f k x.1 x.2.1 x.2.2)), (84, s_PlayJournal.s.ctr (fun x => s_PlayJournal.f k x)), (85, c_pick.s.ctr (fun x => c_pick.f k x.1.1 x.1.2.1 x.1.2.2 x.2))]
noncomputable def c_journal.f (k : Nat) (c_code : List Int) (c_at : Int) (c_seed : Int) : Option ((List ByteArray × List ByteArray × List Bool × Int × Int × List Int × List Int) × (List Int × Int × Int)) := opq (c_journal.s.run Try.prog (c_journal.C k) k (c_code, c_at, c_seed))
theorem c_journal.ok (k : Nat) : CtrOk Try.prog 36 (c_journal.s.ctr (fun x => c_journal.f k x.1 x.2.1 x.2.2)) := sig_ok c_journal.s (.cons (s_NewJournal.ok k) (.cons (c_journalSteps.ok k) (.cons (s_PlayJournal.ok k) (.cons (c_pick.ok k) .nil)))) (by kernel_rfl) fun _ => opq_eq _
theorem c_journal.f_eq (k : Nat) (c_code : List Int) (c_at : Int) (c_seed : Int) : c_journal.f k c_code c_at c_seed =
 (c_journalSteps.f k c_code c_at c_seed).bind fun d0 =>
 (s_PlayJournal.f k d0.fst).bind fun d1 =>
 cn (!d1.snd.snd)
 ((s_NewJournal.f k).bind fun d2 =>
  (c_pick.f k d0.snd.fst d0.snd.snd.fst d0.snd.snd.snd (30 : Int)).bind fun d3 =>
  cn (decide (d3.fst = (0 : Int)))
  (some (((d2.fst, d2.snd.fst, d2.snd.snd.fst, IntKind.i64.wrap (d2.snd.snd.snd.fst + (1 : Int)), d2.snd.snd.snd.snd.fst, d2.snd.snd.snd.snd.snd.fst, d2.snd.snd.snd.snd.snd.snd), d3.snd.fst, d3.snd.snd.fst, d3.snd.snd.snd)))
  (cn (decide (d3.fst = (1 : Int)))
   ((c_pick.f k d3.snd.fst d3.snd.snd.fst d3.snd.snd.snd (5 : Int)).bind fun d4 =>
    some (((d2.fst, d2.snd.fst, d2.snd.snd.fst, d2.snd.snd.snd.fst, d4.fst, d2.snd.snd.snd.snd.snd.fst, d2.snd.snd.snd.snd.snd.snd), d4.snd.fst, d4.snd.snd.fst, d4.snd.snd.snd)))
   (cn (decide (d3.fst = (2 : Int)))
    (dup
     ((c_pick.f k d3.snd.fst d3.snd.snd.fst d3.snd.snd.snd (5 : Int)).bind fun d4 =>
      gd (inb d4.fst d2.fst.length)
      (some (((d2.fst.set (Int.toNat d4.fst) { data := #[(120 : UInt8)] : ByteArray }, d2.snd.fst, d2.snd.snd.fst, d2.snd.snd.snd.fst, d2.snd.snd.snd.snd.fst, d2.snd.snd.snd.snd.snd.fst, d2.snd.snd.snd.snd.snd.snd), d4.snd.fst, d4.snd.snd.fst, d4.snd.snd.snd)))))
    (some (((d2.fst, d2.snd.fst, d2.snd.snd.fst, d2.snd.snd.snd.fst, d2.snd.snd.snd.snd.fst, d2.snd.snd.snd.snd.snd.fst, d2.snd.snd.snd.snd.snd.snd), d3.snd.fst, d3.snd.snd.fst, d3.snd.snd.snd))))))
 ((c_pick.f k d0.snd.fst d0.snd.snd.fst d0.snd.snd.snd (30 : Int)).bind fun d2 =>
  cn (decide (d2.fst = (0 : Int)))
  (some (((d1.fst.fst, d1.fst.snd.fst, d1.fst.snd.snd.fst, IntKind.i64.wrap (d1.fst.snd.snd.snd.fst + (1 : Int)), d1.fst.snd.snd.snd.snd.fst, d1.fst.snd.snd.snd.snd.snd.fst, d1.fst.snd.snd.snd.snd.snd.snd), d2.snd.fst, d2.snd.snd.fst, d2.snd.snd.snd)))
  (cn (decide (d2.fst = (1 : Int)))
   ((c_pick.f k d2.snd.fst d2.snd.snd.fst d2.snd.snd.snd (5 : Int)).bind fun d3 =>
    some (((d1.fst.fst, d1.fst.snd.fst, d1.fst.snd.snd.fst, d1.fst.snd.snd.snd.fst, d3.fst, d1.fst.snd.snd.snd.snd.snd.fst, d1.fst.snd.snd.snd.snd.snd.snd), d3.snd.fst, d3.snd.snd.fst, d3.snd.snd.snd)))
   (cn (decide (d2.fst = (2 : Int)))
    (dup
     ((c_pick.f k d2.snd.fst d2.snd.snd.fst d2.snd.snd.snd (5 : Int)).bind fun d3 =>
      gd (inb d3.fst d1.fst.fst.length)
      (some (((d1.fst.fst.set (Int.toNat d3.fst) { data := #[(120 : UInt8)] : ByteArray }, d1.fst.snd.fst, d1.fst.snd.snd.fst, d1.fst.snd.snd.snd.fst, d1.fst.snd.snd.snd.snd.fst, d1.fst.snd.snd.snd.snd.snd.fst, d1.fst.snd.snd.snd.snd.snd.snd), d3.snd.fst, d3.snd.snd.fst, d3.snd.snd.snd)))))
    (some (((d1.fst.fst, d1.fst.snd.fst, d1.fst.snd.snd.fst, d1.fst.snd.snd.snd.fst, d1.fst.snd.snd.snd.snd.fst, d1.fst.snd.snd.snd.snd.snd.fst, d1.fst.snd.snd.snd.snd.snd.snd), d2.snd.fst, d2.snd.snd.fst, d2.snd.snd.snd)))))) := (opq_eq _).trans (by kernel_rfl)
abbrev s_DrawStepJournal.s : Sig := ⟨5, [], [.val], [.one (.row 5 (.int .u8))], [.agg [.own 9 .str, .own 9 .str, .own 4 .bool, .int .i64, .int .i64, .own 3 (.int .i64), .own 3 (.int .i64)], .agg [.int .i64, .row 3 (.int .i64), .row 3 (.int .i64)]], [], []⟩
noncomputable def s_DrawStepJournal.C (k : Nat) : List (Nat × Ctr) := [(36, c_journal.s.ctr (fun x => c_journal.f k x.1 x.2.1 x.2.2)), (37, c_journalSteps.s.ctr (fun x => c_journalSteps.f k x.1 x.2.1 x.2.2))]
noncomputable def s_DrawStepJournal.f (k : Nat) (code : List Int) : Option ((List ByteArray × List ByteArray × List Bool × Int × Int × List Int × List Int) × (Int × List Int × List Int)) := opq (s_DrawStepJournal.s.run Try.prog (s_DrawStepJournal.C k) k code)
theorem s_DrawStepJournal.ok (k : Nat) : CtrOk Try.prog 5 (s_DrawStepJournal.s.ctr (fun x => s_DrawStepJournal.f k x)) := sig_ok s_DrawStepJournal.s (.cons (c_journal.ok k) (.cons (c_journalSteps.ok k) .nil)) (by kernel_rfl) fun _ => opq_eq _
theorem s_DrawStepJournal.f_eq (k : Nat) (code : List Int) : s_DrawStepJournal.f k code =
 (c_journal.f k code (0 : Int) (0 : Int)).bind fun d0 =>
 (c_journalSteps.f k d0.snd.fst d0.snd.snd.fst d0.snd.snd.snd).bind fun d1 =>
 cn (decide ((↑(List.length d1.fst) : Int) = (0 : Int)))
 (some (((d0.fst.fst, d0.fst.snd.fst, d0.fst.snd.snd.fst, d0.fst.snd.snd.snd.fst, d0.fst.snd.snd.snd.snd.fst, d0.fst.snd.snd.snd.snd.snd.fst, d0.fst.snd.snd.snd.snd.snd.snd), (2 : Int), [], [])))
 (both
  (gd (inb (0 : Int) (List.length d1.fst))
   (dup
    (some (((d0.fst.fst, d0.fst.snd.fst, d0.fst.snd.snd.fst, d0.fst.snd.snd.snd.fst, d0.fst.snd.snd.snd.snd.fst, d0.fst.snd.snd.snd.snd.snd.fst, d0.fst.snd.snd.snd.snd.snd.snd), (getAt ((0 : Int), [], []) d1.fst (0 : Nat)).fst, (getAt ((0 : Int), [], []) d1.fst (0 : Nat)).snd.fst, (getAt ((0 : Int), [], []) d1.fst (0 : Nat)).snd.snd)))))
  (gd (inb (0 : Int) (List.length d1.fst))
   (some (((d0.fst.fst, d0.fst.snd.fst, d0.fst.snd.snd.fst, d0.fst.snd.snd.snd.fst, d0.fst.snd.snd.snd.snd.fst, d0.fst.snd.snd.snd.snd.snd.fst, d0.fst.snd.snd.snd.snd.snd.snd), (getAt ((0 : Int), [], []) d1.fst (0 : Nat)).fst, (getAt ((0 : Int), [], []) d1.fst (0 : Nat)).snd.fst, (getAt ((0 : Int), [], []) d1.fst (0 : Nat)).snd.snd))))) := (opq_eq _).trans (by kernel_rfl)
abbrev i_within.s : Sig := ⟨44, [], [.val, .val, .val], [.one (.int .i64), .one (.int .i64), .one (.int .i64)], [.one .bool], [], []⟩
noncomputable def i_within.C (k : Nat) : List (Nat × Ctr) := []
noncomputable def i_within.f (k : Nat) (n : Int) (low : Int) (high : Int) : Option Bool := opq (i_within.s.run Try.prog (i_within.C k) k (n, low, high))
theorem i_within.ok (k : Nat) : CtrOk Try.prog 44 (i_within.s.ctr (fun x => i_within.f k x.1 x.2.1 x.2.2)) := sig_ok i_within.s .nil (by kernel_rfl) fun _ => opq_eq _
theorem i_within.f_eq (k : Nat) (n : Int) (low : Int) (high : Int) : i_within.f k n low high =
 cn (decide (low ≤ n))
 (some (decide (n ≤ high)))
 (some false) := (opq_eq _).trans (by kernel_rfl)
abbrev i_GoodDisk.s : Sig := ⟨42, [], [.val], [.agg [.row 9 .str, .row 9 .str, .row 4 .bool]], [.one .bool], [], [(0, [(1,false),(27,true),(28,false),(29,false)])]⟩
noncomputable def i_GoodDisk.C (k : Nat) : List (Nat × Ctr) := [(44, i_within.s.ctr (fun x => i_within.f k x.1 x.2.1 x.2.2))]
noncomputable def i_GoodDisk.f (k : Nat) (d_Plate : List ByteArray) (d_Held : List ByteArray) (d_Bad : List Bool) : Option Bool := opq (i_GoodDisk.s.run Try.prog (i_GoodDisk.C k) k (d_Plate, d_Held, d_Bad))
theorem i_GoodDisk.ok (k : Nat) : CtrOk Try.prog 42 (i_GoodDisk.s.ctr (fun x => i_GoodDisk.f k x.1 x.2.1 x.2.2)) := sig_ok i_GoodDisk.s (.cons (i_within.ok k) .nil) (by kernel_rfl) fun _ => opq_eq _
noncomputable def i_GoodDisk.l0 (k : Nat) (m : Nat) (t27 : List ByteArray) (t28 : Int) (t29 : Int) (h1 : List ByteArray) (h1_ : List ByteArray) (h1__ : List Bool) : Option Bool := i_GoodDisk.s.head Try.prog (i_GoodDisk.C k) k 1 0 [] m [(1, AV.ptr 1 0 0), (27, AV.row 9 Kind.str t27), (28, AV.int IntKind.i64 t28), (29, AV.int IntKind.i64 t29)] [Root.dead, Root.box 26 [AV.row 9 Kind.str h1, AV.row 9 Kind.str h1_, AV.row 4 Kind.bool h1__]]
theorem i_GoodDisk.l0_z (k : Nat) (t27 : List ByteArray) (t28 : Int) (t29 : Int) (h1 : List ByteArray) (h1_ : List ByteArray) (h1__ : List Bool) : i_GoodDisk.l0 k 0 t27 t28 t29 h1 h1_ h1__ = none := by kernel_rfl
theorem i_GoodDisk.l0_s (k : Nat) (m : Nat) (t27 : List ByteArray) (t28 : Int) (t29 : Int) (h1 : List ByteArray) (h1_ : List ByteArray) (h1__ : List Bool) : i_GoodDisk.l0 k (m + 1) t27 t28 t29 h1 h1_ h1__ =
 cn (decide (t29 < t28))
 (gd (inb t29 t27.length)
  (cn (decide ((28 : Int) < (↑(getAt ByteArray.empty t27 t29.toNat).size : Int)))
   (some false)
   (gd (inb t29 h1_.length)
    (cn (decide ((28 : Int) < (↑(getAt ByteArray.empty h1_ t29.toNat).size : Int)))
     (some false)
     (gd (inb t29 h1__.length)
      (cn (getAt false h1__ t29.toNat)
       (gd (inb t29 h1_.length)
        (cn (!decide ((getAt ByteArray.empty h1_ t29.toNat).toList = ByteArray.empty.toList))
         (some false)
         (i_GoodDisk.l0 k m t27 t28 (IntKind.i64.wrap (t29 + (1 : Int))) h1 h1_ h1__)))
       (i_GoodDisk.l0 k m t27 t28 (IntKind.i64.wrap (t29 + (1 : Int))) h1 h1_ h1__)))))))
 (some true) := by kernel_rfl
theorem i_GoodDisk.f_eq (k : Nat) (d_Plate : List ByteArray) (d_Held : List ByteArray) (d_Bad : List Bool) : i_GoodDisk.f k d_Plate d_Held d_Bad =
 (i_within.f k (↑d_Plate.length : Int) (1 : Int) (24 : Int)).bind fun d0 =>
 cn (!d0)
 (some false)
 (cn (!decide ((↑d_Held.length : Int) = (↑d_Plate.length : Int)))
  (some false)
  (cn (!decide ((↑d_Bad.length : Int) = (↑d_Plate.length : Int)))
   (some false)
   (i_GoodDisk.l0 k k d_Plate ((↑d_Plate.length : Int)) ((0 : Int)) d_Plate d_Held d_Bad))) := (opq_eq _).trans (by kernel_rfl)
abbrev b_Index_bool.s : Sig := ⟨93, [], [.val, .val], [.one (.row 4 .bool), .one .bool], [.one (.int .i64)], [], [(0, [(0,false),(1,false),(7,false),(8,false)])]⟩
noncomputable def b_Index_bool.C (k : Nat) : List (Nat × Ctr) := []
noncomputable def b_Index_bool.f (k : Nat) (s : List Bool) (v : Bool) : Option Int := opq (b_Index_bool.s.run Try.prog (b_Index_bool.C k) k (s, v))
theorem b_Index_bool.ok (k : Nat) : CtrOk Try.prog 93 (b_Index_bool.s.ctr (fun x => b_Index_bool.f k x.1 x.2)) := sig_ok b_Index_bool.s .nil (by kernel_rfl) fun _ => opq_eq _
noncomputable def b_Index_bool.l0 (k : Nat) (m : Nat) (s0 : List Bool) (v1 : Bool) (t7 : Int) (t8 : Int) : Option Int := b_Index_bool.s.head Try.prog (b_Index_bool.C k) k 1 0 [] m [(0, AV.row 4 Kind.bool s0), (1, AV.bool v1), (7, AV.int IntKind.i64 t7), (8, AV.int IntKind.i64 t8)] [Root.dead]
theorem b_Index_bool.l0_z (k : Nat) (s0 : List Bool) (v1 : Bool) (t7 : Int) (t8 : Int) : b_Index_bool.l0 k 0 s0 v1 t7 t8 = none := by kernel_rfl
theorem b_Index_bool.l0_s (k : Nat) (m : Nat) (s0 : List Bool) (v1 : Bool) (t7 : Int) (t8 : Int) : b_Index_bool.l0 k (m + 1) s0 v1 t7 t8 =
 cn (decide (t8 < t7))
 (gd (inb t8 s0.length)
  (cn (v1 == getAt false s0 t8.toNat)
   (some t8)
   (b_Index_bool.l0 k m s0 v1 t7 (IntKind.i64.wrap (t8 + (1 : Int))))))
 (some ((-1 : Int))) := by kernel_rfl
theorem b_Index_bool.f_eq (k : Nat) (s : List Bool) (v : Bool) : b_Index_bool.f k s v =
 b_Index_bool.l0 k k s v ((↑s.length : Int)) ((0 : Int)) := (opq_eq _).trans (by kernel_rfl)
abbrev b_Contains_bool.s : Sig := ⟨43, [], [.val, .val], [.one (.row 4 .bool), .one .bool], [.one .bool], [], []⟩
noncomputable def b_Contains_bool.C (k : Nat) : List (Nat × Ctr) := [(93, b_Index_bool.s.ctr (fun x => b_Index_bool.f k x.1 x.2))]
noncomputable def b_Contains_bool.f (k : Nat) (s : List Bool) (v : Bool) : Option Bool := opq (b_Contains_bool.s.run Try.prog (b_Contains_bool.C k) k (s, v))
theorem b_Contains_bool.ok (k : Nat) : CtrOk Try.prog 43 (b_Contains_bool.s.ctr (fun x => b_Contains_bool.f k x.1 x.2)) := sig_ok b_Contains_bool.s (.cons (b_Index_bool.ok k) .nil) (by kernel_rfl) fun _ => opq_eq _
theorem b_Contains_bool.f_eq (k : Nat) (s : List Bool) (v : Bool) : b_Contains_bool.f k s v =
 (b_Index_bool.f k s v).bind fun d0 =>
 some (decide ((0 : Int) ≤ d0)) := (opq_eq _).trans (by kernel_rfl)
abbrev i_isState_1.s : Sig := ⟨95, [], [.val], [.one (.int .i64)], [.one .bool], [], []⟩
noncomputable def i_isState_1.C (k : Nat) : List (Nat × Ctr) := [(44, i_within.s.ctr (fun x => i_within.f k x.1 x.2.1 x.2.2))]
noncomputable def i_isState_1.f (k : Nat) (n : Int) : Option Bool := opq (i_isState_1.s.run Try.prog (i_isState_1.C k) k n)
theorem i_isState_1.ok (k : Nat) : CtrOk Try.prog 95 (i_isState_1.s.ctr (fun x => i_isState_1.f k x)) := sig_ok i_isState_1.s (.cons (i_within.ok k) .nil) (by kernel_rfl) fun _ => opq_eq _
theorem i_isState_1.f_eq (k : Nat) (n : Int) : i_isState_1.f k n =
 (i_within.f k n (0 : Int) (65535 : Int)).bind fun d0 =>
 some (!d0) := (opq_eq _).trans (by kernel_rfl)
abbrev b_IndexFunc_int__i_isState_1.s : Sig := ⟨121, [], [.val, .val], [.one (.row 3 (.int .i64)), .one (.fn 95)], [.one (.int .i64)], [], [(0, [(0,false),(1,false),(7,false),(8,false)])]⟩
noncomputable def b_IndexFunc_int__i_isState_1.C (k : Nat) : List (Nat × Ctr) := [(95, i_isState_1.s.ctr (fun x => i_isState_1.f k x))]
noncomputable def b_IndexFunc_int__i_isState_1.f (k : Nat) (s : List Int) : Option Int := opq (b_IndexFunc_int__i_isState_1.s.run Try.prog (b_IndexFunc_int__i_isState_1.C k) k (s, ()))
theorem b_IndexFunc_int__i_isState_1.ok (k : Nat) : CtrOk Try.prog 121 (b_IndexFunc_int__i_isState_1.s.ctr (fun x => b_IndexFunc_int__i_isState_1.f k x.1)) := sig_ok b_IndexFunc_int__i_isState_1.s (.cons (i_isState_1.ok k) .nil) (by kernel_rfl) fun _ => opq_eq _
noncomputable def b_IndexFunc_int__i_isState_1.l0 (k : Nat) (m : Nat) (s0 : List Int) (t7 : Int) (t8 : Int) : Option Int := b_IndexFunc_int__i_isState_1.s.head Try.prog (b_IndexFunc_int__i_isState_1.C k) k 1 0 [] m [(0, AV.row 3 (Kind.int IntKind.i64) s0), (1, AV.fn 95), (7, AV.int IntKind.i64 t7), (8, AV.int IntKind.i64 t8)] [Root.dead]
theorem b_IndexFunc_int__i_isState_1.l0_z (k : Nat) (s0 : List Int) (t7 : Int) (t8 : Int) : b_IndexFunc_int__i_isState_1.l0 k 0 s0 t7 t8 = none := by kernel_rfl
theorem b_IndexFunc_int__i_isState_1.l0_s (k : Nat) (m : Nat) (s0 : List Int) (t7 : Int) (t8 : Int) : b_IndexFunc_int__i_isState_1.l0 k (m + 1) s0 t7 t8 =
 cn (decide (t8 < t7))
 (gd (inb t8 s0.length)
  ((i_isState_1.f k (getAt (0 : Int) s0 t8.toNat)).bind fun d0 =>
   cn d0
   (some t8)
   (b_IndexFunc_int__i_isState_1.l0 k m s0 t7 (IntKind.i64.wrap (t8 + (1 : Int))))))
 (some ((-1 : Int))) := by kernel_rfl
theorem b_IndexFunc_int__i_isState_1.f_eq (k : Nat) (s : List Int) : b_IndexFunc_int__i_isState_1.f k s =
 b_IndexFunc_int__i_isState_1.l0 k k s ((↑s.length : Int)) ((0 : Int)) := (opq_eq _).trans (by kernel_rfl)
abbrev b_ContainsFunc_int__i_isState_1.s : Sig := ⟨94, [], [.val, .val], [.one (.row 3 (.int .i64)), .one (.fn 95)], [.one .bool], [], []⟩
noncomputable def b_ContainsFunc_int__i_isState_1.C (k : Nat) : List (Nat × Ctr) := [(121, b_IndexFunc_int__i_isState_1.s.ctr (fun x => b_IndexFunc_int__i_isState_1.f k x.1))]
noncomputable def b_ContainsFunc_int__i_isState_1.f (k : Nat) (s : List Int) : Option Bool := opq (b_ContainsFunc_int__i_isState_1.s.run Try.prog (b_ContainsFunc_int__i_isState_1.C k) k (s, ()))
theorem b_ContainsFunc_int__i_isState_1.ok (k : Nat) : CtrOk Try.prog 94 (b_ContainsFunc_int__i_isState_1.s.ctr (fun x => b_ContainsFunc_int__i_isState_1.f k x.1)) := sig_ok b_ContainsFunc_int__i_isState_1.s (.cons (b_IndexFunc_int__i_isState_1.ok k) .nil) (by kernel_rfl) fun _ => opq_eq _
theorem b_ContainsFunc_int__i_isState_1.f_eq (k : Nat) (s : List Int) : b_ContainsFunc_int__i_isState_1.f k s =
 (b_IndexFunc_int__i_isState_1.f k s).bind fun d0 =>
 some (decide ((0 : Int) ≤ d0)) := (opq_eq _).trans (by kernel_rfl)
abbrev i_isState.s : Sig := ⟨45, [], [.val], [.one (.row 3 (.int .i64))], [.one .bool], [], []⟩
noncomputable def i_isState.C (k : Nat) : List (Nat × Ctr) := [(94, b_ContainsFunc_int__i_isState_1.s.ctr (fun x => b_ContainsFunc_int__i_isState_1.f k x.1))]
noncomputable def i_isState.f (k : Nat) (values : List Int) : Option Bool := opq (i_isState.s.run Try.prog (i_isState.C k) k values)
theorem i_isState.ok (k : Nat) : CtrOk Try.prog 45 (i_isState.s.ctr (fun x => i_isState.f k x)) := sig_ok i_isState.s (.cons (b_ContainsFunc_int__i_isState_1.ok k) .nil) (by kernel_rfl) fun _ => opq_eq _
theorem i_isState.f_eq (k : Nat) (values : List Int) : i_isState.f k values =
 cn (decide ((↑values.length : Int) = (6 : Int)))
 ((b_ContainsFunc_int__i_isState_1.f k values).bind fun d0 =>
  some (!d0))
 (some false) := (opq_eq _).trans (by kernel_rfl)
abbrev b_Clone_string.s : Sig := ⟨122, [], [.val], [.one (.row 9 .str)], [.one (.own 9 .str)], [], []⟩
noncomputable def b_Clone_string.C (k : Nat) : List (Nat × Ctr) := []
noncomputable def b_Clone_string.f (k : Nat) (s : List ByteArray) : Option (List ByteArray) := opq (b_Clone_string.s.run Try.prog (b_Clone_string.C k) k s)
theorem b_Clone_string.ok (k : Nat) : CtrOk Try.prog 122 (b_Clone_string.s.ctr (fun x => b_Clone_string.f k x)) := sig_ok b_Clone_string.s .nil (by kernel_rfl) fun _ => opq_eq _
theorem b_Clone_string.f_eq (k : Nat) (s : List ByteArray) : b_Clone_string.f k s =
 cn (noEl s)
 (both
  (some ([]))
  (gd (appOk ((0 : Nat) + s.length) (Try.prog.bytesOf (9 : Nat)))
   (some ([] ++ s))))
 (gd (appOk ((0 : Nat) + s.length) (Try.prog.bytesOf (9 : Nat)))
  (some ([] ++ s))) := (opq_eq _).trans (by kernel_rfl)
abbrev b_Clone_bool.s : Sig := ⟨123, [], [.val], [.one (.row 4 .bool)], [.one (.own 4 .bool)], [], []⟩
noncomputable def b_Clone_bool.C (k : Nat) : List (Nat × Ctr) := []
noncomputable def b_Clone_bool.f (k : Nat) (s : List Bool) : Option (List Bool) := opq (b_Clone_bool.s.run Try.prog (b_Clone_bool.C k) k s)
theorem b_Clone_bool.ok (k : Nat) : CtrOk Try.prog 123 (b_Clone_bool.s.ctr (fun x => b_Clone_bool.f k x)) := sig_ok b_Clone_bool.s .nil (by kernel_rfl) fun _ => opq_eq _
theorem b_Clone_bool.f_eq (k : Nat) (s : List Bool) : b_Clone_bool.f k s =
 cn (noEl s)
 (both
  (some ([]))
  (gd (appOk ((0 : Nat) + s.length) (Try.prog.bytesOf (4 : Nat)))
   (some ([] ++ s))))
 (gd (appOk ((0 : Nat) + s.length) (Try.prog.bytesOf (4 : Nat)))
  (some ([] ++ s))) := (opq_eq _).trans (by kernel_rfl)
abbrev i_ownDisk.s : Sig := ⟨96, [], [.val], [.agg [.row 9 .str, .row 9 .str, .row 4 .bool]], [.agg [.own 9 .str, .own 9 .str, .own 4 .bool]], [], []⟩
noncomputable def i_ownDisk.C (k : Nat) : List (Nat × Ctr) := [(122, b_Clone_string.s.ctr (fun x => b_Clone_string.f k x)), (123, b_Clone_bool.s.ctr (fun x => b_Clone_bool.f k x))]
noncomputable def i_ownDisk.f (k : Nat) (d_Plate : List ByteArray) (d_Held : List ByteArray) (d_Bad : List Bool) : Option (List ByteArray × List ByteArray × List Bool) := opq (i_ownDisk.s.run Try.prog (i_ownDisk.C k) k (d_Plate, d_Held, d_Bad))
theorem i_ownDisk.ok (k : Nat) : CtrOk Try.prog 96 (i_ownDisk.s.ctr (fun x => i_ownDisk.f k x.1 x.2.1 x.2.2)) := sig_ok i_ownDisk.s (.cons (b_Clone_string.ok k) (.cons (b_Clone_bool.ok k) .nil)) (by kernel_rfl) fun _ => opq_eq _
theorem i_ownDisk.f_eq (k : Nat) (d_Plate : List ByteArray) (d_Held : List ByteArray) (d_Bad : List Bool) : i_ownDisk.f k d_Plate d_Held d_Bad =
 (b_Clone_string.f k d_Plate).bind fun d0 =>
 (b_Clone_string.f k d_Held).bind fun d1 =>
 (b_Clone_bool.f k d_Bad).bind fun d2 =>
 some ((d0, d1, d2)) := (opq_eq _).trans (by kernel_rfl)
abbrev b_Index_int.s : Sig := ⟨124, [], [.val, .val], [.one (.row 3 (.int .i64)), .one (.int .i64)], [.one (.int .i64)], [], [(0, [(0,false),(1,false),(7,false),(8,false)])]⟩
noncomputable def b_Index_int.C (k : Nat) : List (Nat × Ctr) := []
noncomputable def b_Index_int.f (k : Nat) (s : List Int) (v : Int) : Option Int := opq (b_Index_int.s.run Try.prog (b_Index_int.C k) k (s, v))
theorem b_Index_int.ok (k : Nat) : CtrOk Try.prog 124 (b_Index_int.s.ctr (fun x => b_Index_int.f k x.1 x.2)) := sig_ok b_Index_int.s .nil (by kernel_rfl) fun _ => opq_eq _
noncomputable def b_Index_int.l0 (k : Nat) (m : Nat) (s0 : List Int) (v1 : Int) (t7 : Int) (t8 : Int) : Option Int := b_Index_int.s.head Try.prog (b_Index_int.C k) k 1 0 [] m [(0, AV.row 3 (Kind.int IntKind.i64) s0), (1, AV.int IntKind.i64 v1), (7, AV.int IntKind.i64 t7), (8, AV.int IntKind.i64 t8)] [Root.dead]
theorem b_Index_int.l0_z (k : Nat) (s0 : List Int) (v1 : Int) (t7 : Int) (t8 : Int) : b_Index_int.l0 k 0 s0 v1 t7 t8 = none := by kernel_rfl
theorem b_Index_int.l0_s (k : Nat) (m : Nat) (s0 : List Int) (v1 : Int) (t7 : Int) (t8 : Int) : b_Index_int.l0 k (m + 1) s0 v1 t7 t8 =
 cn (decide (t8 < t7))
 (gd (inb t8 s0.length)
  (cn (decide (v1 = getAt (0 : Int) s0 t8.toNat))
   (some t8)
   (b_Index_int.l0 k m s0 v1 t7 (IntKind.i64.wrap (t8 + (1 : Int))))))
 (some ((-1 : Int))) := by kernel_rfl
theorem b_Index_int.f_eq (k : Nat) (s : List Int) (v : Int) : b_Index_int.f k s v =
 b_Index_int.l0 k k s v ((↑s.length : Int)) ((0 : Int)) := (opq_eq _).trans (by kernel_rfl)
abbrev b_Contains_int.s : Sig := ⟨97, [], [.val, .val], [.one (.row 3 (.int .i64)), .one (.int .i64)], [.one .bool], [], []⟩
noncomputable def b_Contains_int.C (k : Nat) : List (Nat × Ctr) := [(124, b_Index_int.s.ctr (fun x => b_Index_int.f k x.1 x.2))]
noncomputable def b_Contains_int.f (k : Nat) (s : List Int) (v : Int) : Option Bool := opq (b_Contains_int.s.run Try.prog (b_Contains_int.C k) k (s, v))
theorem b_Contains_int.ok (k : Nat) : CtrOk Try.prog 97 (b_Contains_int.s.ctr (fun x => b_Contains_int.f k x.1 x.2)) := sig_ok b_Contains_int.s (.cons (b_Index_int.ok k) .nil) (by kernel_rfl) fun _ => opq_eq _
theorem b_Contains_int.f_eq (k : Nat) (s : List Int) (v : Int) : b_Contains_int.f k s v =
 (b_Index_int.f k s v).bind fun d0 =>
 some (decide ((0 : Int) ≤ d0)) := (opq_eq _).trans (by kernel_rfl)
abbrev i_crashed.s : Sig := ⟨46, [], [.val, .val], [.agg [.row 9 .str, .row 9 .str, .row 4 .bool], .one (.row 3 (.int .i64))], [.agg [.own 9 .str, .own 9 .str, .own 4 .bool]], [], [(0, [(1,false),(4,false),(5,false),(11,false),(12,false)])]⟩
noncomputable def i_crashed.C (k : Nat) : List (Nat × Ctr) := [(96, i_ownDisk.s.ctr (fun x => i_ownDisk.f k x.1 x.2.1 x.2.2)), (97, b_Contains_int.s.ctr (fun x => b_Contains_int.f k x.1 x.2))]
noncomputable def i_crashed.f (k : Nat) (d_Plate : List ByteArray) (d_Held : List ByteArray) (d_Bad : List Bool) (kept : List Int) : Option (List ByteArray × List ByteArray × List Bool) := opq (i_crashed.s.run Try.prog (i_crashed.C k) k ((d_Plate, d_Held, d_Bad), kept))
theorem i_crashed.ok (k : Nat) : CtrOk Try.prog 46 (i_crashed.s.ctr (fun x => i_crashed.f k x.1.1 x.1.2.1 x.1.2.2 x.2)) := sig_ok i_crashed.s (.cons (i_ownDisk.ok k) (.cons (b_Contains_int.ok k) .nil)) (by kernel_rfl) fun _ => opq_eq _
noncomputable def i_crashed.l0 (k : Nat) (m : Nat) (kept1 : List Int) (t11 : Int) (t12 : Int) (h2 : List ByteArray) (h3 : List ByteArray) (h4 : List Bool) : Option (List ByteArray × List ByteArray × List Bool) := i_crashed.s.head Try.prog (i_crashed.C k) k 1 0 [] m [(1, AV.row 3 (Kind.int IntKind.i64) kept1), (4, AV.ptr 1 0 0), (5, AV.ptr 5 0 0), (11, AV.int IntKind.i64 t11), (12, AV.int IntKind.i64 t12)] [Root.dead, Root.box 26 [AV.nil 9 Kind.str, AV.nil 9 Kind.str, AV.nil 4 Kind.bool], Root.rows 9 Kind.str h2, Root.rows 9 Kind.str h3, Root.rows 4 Kind.bool h4, Root.box 26 [AV.ref 2, AV.ref 3, AV.ref 4]]
theorem i_crashed.l0_z (k : Nat) (kept1 : List Int) (t11 : Int) (t12 : Int) (h2 : List ByteArray) (h3 : List ByteArray) (h4 : List Bool) : i_crashed.l0 k 0 kept1 t11 t12 h2 h3 h4 = none := by kernel_rfl
theorem i_crashed.l0_s (k : Nat) (m : Nat) (kept1 : List Int) (t11 : Int) (t12 : Int) (h2 : List ByteArray) (h3 : List ByteArray) (h4 : List Bool) : i_crashed.l0 k (m + 1) kept1 t11 t12 h2 h3 h4 =
 cn (decide (t12 < t11))
 ((b_Contains_int.f k kept1 t12).bind fun d1 =>
  cn d1
  (gd (inb t12 h3.length)
   (gd (inb t12 h2.length)
    (gd (inb t12 h3.length)
     (i_crashed.l0 k m kept1 t11 (IntKind.i64.wrap (t12 + (1 : Int))) (h2.set t12.toNat (getAt ByteArray.empty h3 t12.toNat)) (h3.set t12.toNat ByteArray.empty) h4))))
  (gd (inb t12 h3.length)
   (i_crashed.l0 k m kept1 t11 (IntKind.i64.wrap (t12 + (1 : Int))) h2 (h3.set t12.toNat ByteArray.empty) h4)))
 (some ((h2, h3, h4))) := by kernel_rfl
theorem i_crashed.f_eq (k : Nat) (d_Plate : List ByteArray) (d_Held : List ByteArray) (d_Bad : List Bool) (kept : List Int) : i_crashed.f k d_Plate d_Held d_Bad kept =
 (i_ownDisk.f k d_Plate d_Held d_Bad).bind fun d0 =>
 i_crashed.l0 k k kept ((↑d0.snd.fst.length : Int)) ((0 : Int)) d0.fst d0.snd.fst d0.snd.snd := (opq_eq _).trans (by kernel_rfl)
abbrev i_Disk_has.s : Sig := ⟨101, [], [.val, .val], [.agg [.row 9 .str, .row 9 .str, .row 4 .bool], .one (.int .i64)], [.one .bool], [], []⟩
noncomputable def i_Disk_has.C (k : Nat) : List (Nat × Ctr) := [(44, i_within.s.ctr (fun x => i_within.f k x.1 x.2.1 x.2.2))]
noncomputable def i_Disk_has.f (k : Nat) (d_Plate : List ByteArray) (d_Held : List ByteArray) (d_Bad : List Bool) (at_ : Int) : Option Bool := opq (i_Disk_has.s.run Try.prog (i_Disk_has.C k) k ((d_Plate, d_Held, d_Bad), at_))
theorem i_Disk_has.ok (k : Nat) : CtrOk Try.prog 101 (i_Disk_has.s.ctr (fun x => i_Disk_has.f k x.1.1 x.1.2.1 x.1.2.2 x.2)) := sig_ok i_Disk_has.s (.cons (i_within.ok k) .nil) (by kernel_rfl) fun _ => opq_eq _
theorem i_Disk_has.f_eq (k : Nat) (d_Plate : List ByteArray) (d_Held : List ByteArray) (d_Bad : List Bool) (at_ : Int) : i_Disk_has.f k d_Plate d_Held d_Bad at_ =
 (i_within.f k at_ (0 : Int) (IntKind.i64.wrap ((↑d_Plate.length : Int) - (1 : Int)))).bind fun d0 =>
 some d0 := (opq_eq _).trans (by kernel_rfl)
abbrev i_ReadSector.s : Sig := ⟨55, [], [.val, .val], [.agg [.row 9 .str, .row 9 .str, .row 4 .bool], .one (.int .i64)], [.one .str, .one .bool], [], []⟩
noncomputable def i_ReadSector.C (k : Nat) : List (Nat × Ctr) := [(101, i_Disk_has.s.ctr (fun x => i_Disk_has.f k x.1.1 x.1.2.1 x.1.2.2 x.2)), (42, i_GoodDisk.s.ctr (fun x => i_GoodDisk.f k x.1 x.2.1 x.2.2))]
noncomputable def i_ReadSector.f (k : Nat) (d_Plate : List ByteArray) (d_Held : List ByteArray) (d_Bad : List Bool) (at_ : Int) : Option (ByteArray × Bool) := opq (i_ReadSector.s.run Try.prog (i_ReadSector.C k) k ((d_Plate, d_Held, d_Bad), at_))
theorem i_ReadSector.ok (k : Nat) : CtrOk Try.prog 55 (i_ReadSector.s.ctr (fun x => i_ReadSector.f k x.1.1 x.1.2.1 x.1.2.2 x.2)) := sig_ok i_ReadSector.s (.cons (i_Disk_has.ok k) (.cons (i_GoodDisk.ok k) .nil)) (by kernel_rfl) fun _ => opq_eq _
theorem i_ReadSector.f_eq (k : Nat) (d_Plate : List ByteArray) (d_Held : List ByteArray) (d_Bad : List Bool) (at_ : Int) : i_ReadSector.f k d_Plate d_Held d_Bad at_ =
 (i_GoodDisk.f k d_Plate d_Held d_Bad).bind fun d0 =>
 cn (!d0)
 (some ((ByteArray.empty, false)))
 ((i_Disk_has.f k d_Plate d_Held d_Bad at_).bind fun d1 =>
  cn (!d1)
  (some ((ByteArray.empty, false)))
  (gd (inb at_ d_Bad.length)
   (cn (getAt false d_Bad at_.toNat)
    (some ((ByteArray.empty, false)))
    (gd (inb at_ d_Held.length)
     (cn (!decide ((getAt ByteArray.empty d_Held at_.toNat).toList = ByteArray.empty.toList))
      (gd (inb at_ d_Held.length)
       (some ((getAt ByteArray.empty d_Held at_.toNat, true))))
      (gd (inb at_ d_Plate.length)
       (some ((getAt ByteArray.empty d_Plate at_.toNat, true))))))))) := (opq_eq _).trans (by kernel_rfl)
abbrev i_turned.s : Sig := ⟨134, [], [.val], [.one (.int .i64)], [.one (.int .i64)], [], []⟩
noncomputable def i_turned.C (k : Nat) : List (Nat × Ctr) := []
noncomputable def i_turned.f (k : Nat) (sum : Int) : Option Int := opq (i_turned.s.run Try.prog (i_turned.C k) k sum)
theorem i_turned.ok (k : Nat) : CtrOk Try.prog 134 (i_turned.s.ctr (fun x => i_turned.f k x)) := sig_ok i_turned.s .nil (by kernel_rfl) fun _ => opq_eq _
theorem i_turned.f_eq (k : Nat) (sum : Int) : i_turned.f k sum =
 some (IntKind.i64.wrap (↑(BitVec.ofInt (64 : Nat) sum ^^^ BitVec.ofInt (64 : Nat) (4294967295 : Int)).toNat : Int)) := (opq_eq _).trans (by kernel_rfl)
abbrev i_shifted.s : Sig := ⟨135, [], [.val], [.one (.int .i64)], [.one (.int .i64)], [], [(0, [(0,false),(4,false)])]⟩
noncomputable def i_shifted.C (k : Nat) : List (Nat × Ctr) := []
noncomputable def i_shifted.f (k : Nat) (sum : Int) : Option Int := opq (i_shifted.s.run Try.prog (i_shifted.C k) k sum)
theorem i_shifted.ok (k : Nat) : CtrOk Try.prog 135 (i_shifted.s.ctr (fun x => i_shifted.f k x)) := sig_ok i_shifted.s .nil (by kernel_rfl) fun _ => opq_eq _
noncomputable def i_shifted.l0 (k : Nat) (m : Nat) (sum0 : Int) (t4 : Int) : Option Int := i_shifted.s.head Try.prog (i_shifted.C k) k 1 0 [] m [(0, AV.int IntKind.i64 sum0), (4, AV.int IntKind.i64 t4)] [Root.dead]
theorem i_shifted.l0_z (k : Nat) (sum0 : Int) (t4 : Int) : i_shifted.l0 k 0 sum0 t4 = none := by kernel_rfl
theorem i_shifted.l0_s (k : Nat) (m : Nat) (sum0 : Int) (t4 : Int) : i_shifted.l0 k (m + 1) sum0 t4 =
 cn (decide (t4 < (8 : Int)))
 (cn (decide (IntKind.i64.wrap (↑(BitVec.ofInt (64 : Nat) sum0 &&& BitVec.ofInt (64 : Nat) (1 : Int)).toNat : Int) = (1 : Int)))
  (i_shifted.l0 k m (IntKind.i64.wrap (↑(BitVec.ofInt (64 : Nat) (sum0.fdiv ((2 : Int) ^ (1 : Nat))) ^^^ BitVec.ofInt (64 : Nat) (2197175160 : Int)).toNat : Int)) (IntKind.i64.wrap (t4 + (1 : Int))))
  (i_shifted.l0 k m (sum0.fdiv ((2 : Int) ^ (1 : Nat))) (IntKind.i64.wrap (t4 + (1 : Int)))))
 (some sum0) := by kernel_rfl
theorem i_shifted.f_eq (k : Nat) (sum : Int) : i_shifted.f k sum =
 i_shifted.l0 k k sum ((0 : Int)) := (opq_eq _).trans (by kernel_rfl)
abbrev i_sumOn.s : Sig := ⟨126, [], [.val, .val], [.one (.int .i64), .one .str], [.one (.int .i64)], [], [(0, [(0,false),(1,false),(9,false),(10,false)])]⟩
noncomputable def i_sumOn.C (k : Nat) : List (Nat × Ctr) := [(134, i_turned.s.ctr (fun x => i_turned.f k x)), (135, i_shifted.s.ctr (fun x => i_shifted.f k x))]
noncomputable def i_sumOn.f (k : Nat) (sum : Int) (s : ByteArray) : Option Int := opq (i_sumOn.s.run Try.prog (i_sumOn.C k) k (sum, s))
theorem i_sumOn.ok (k : Nat) : CtrOk Try.prog 126 (i_sumOn.s.ctr (fun x => i_sumOn.f k x.1 x.2)) := sig_ok i_sumOn.s (.cons (i_turned.ok k) (.cons (i_shifted.ok k) .nil)) (by kernel_rfl) fun _ => opq_eq _
noncomputable def i_sumOn.l0 (k : Nat) (m : Nat) (sum0 : Int) (s1 : ByteArray) (t9 : Int) (t10 : Int) : Option Int := i_sumOn.s.head Try.prog (i_sumOn.C k) k 1 0 [] m [(0, AV.int IntKind.i64 sum0), (1, AV.str s1), (9, AV.int IntKind.i64 t9), (10, AV.int IntKind.i64 t10)] [Root.dead]
theorem i_sumOn.l0_z (k : Nat) (sum0 : Int) (s1 : ByteArray) (t9 : Int) (t10 : Int) : i_sumOn.l0 k 0 sum0 s1 t9 t10 = none := by kernel_rfl
theorem i_sumOn.l0_s (k : Nat) (m : Nat) (sum0 : Int) (s1 : ByteArray) (t9 : Int) (t10 : Int) : i_sumOn.l0 k (m + 1) sum0 s1 t9 t10 =
 cn (decide (t10 < t9))
 (gd (inb t10 s1.size)
  ((i_shifted.f k (IntKind.i64.wrap (↑(BitVec.ofInt (64 : Nat) sum0 ^^^ BitVec.ofInt (64 : Nat) (IntKind.i64.wrap (↑(s1.data.getD t10.toNat (0 : UInt8)).toNat : Int))).toNat : Int))).bind fun d1 =>
   i_sumOn.l0 k m d1 s1 t9 (IntKind.i64.wrap (t10 + (1 : Int)))))
 ((i_turned.f k sum0).bind fun d1 =>
  some d1) := by kernel_rfl
theorem i_sumOn.f_eq (k : Nat) (sum : Int) (s : ByteArray) : i_sumOn.f k sum s =
 (i_turned.f k sum).bind fun d0 =>
 i_sumOn.l0 k k d0 s ((↑s.size : Int)) ((0 : Int)) := (opq_eq _).trans (by kernel_rfl)
abbrev i_GoodFrame.s : Sig := ⟨127, [], [.val], [.agg [.int .i64, .int .i64, .int .i64, .str]], [.one .bool], [], []⟩
noncomputable def i_GoodFrame.C (k : Nat) : List (Nat × Ctr) := [(44, i_within.s.ctr (fun x => i_within.f k x.1 x.2.1 x.2.2))]
noncomputable def i_GoodFrame.f (k : Nat) (f_Kind : Int) (f_At : Int) (f_Epoch : Int) (f_Body : ByteArray) : Option Bool := opq (i_GoodFrame.s.run Try.prog (i_GoodFrame.C k) k (f_Kind, f_At, f_Epoch, f_Body))
theorem i_GoodFrame.ok (k : Nat) : CtrOk Try.prog 127 (i_GoodFrame.s.ctr (fun x => i_GoodFrame.f k x.1 x.2.1 x.2.2.1 x.2.2.2)) := sig_ok i_GoodFrame.s (.cons (i_within.ok k) .nil) (by kernel_rfl) fun _ => opq_eq _
theorem i_GoodFrame.f_eq (k : Nat) (f_Kind : Int) (f_At : Int) (f_Epoch : Int) (f_Body : ByteArray) : i_GoodFrame.f k f_Kind f_At f_Epoch f_Body =
 (i_within.f k f_Kind (1 : Int) (255 : Int)).bind fun d0 =>
 cn d0
 ((i_within.f k f_At (0 : Int) (60000 : Int)).bind fun d1 =>
  cn d1
  ((i_within.f k f_Epoch (0 : Int) (60000 : Int)).bind fun d2 =>
   cn d2
   (some (decide ((↑f_Body.size : Int) ≤ (16 : Int))))
   (some false))
  (some false))
 (some false) := (opq_eq _).trans (by kernel_rfl)
abbrev i_frameBytes.s : Sig := ⟨105, [], [.val], [.agg [.int .i64, .int .i64, .int .i64, .str]], [.one .str], [], []⟩
noncomputable def i_frameBytes.C (k : Nat) : List (Nat × Ctr) := [(126, i_sumOn.s.ctr (fun x => i_sumOn.f k x.1 x.2))]
noncomputable def i_frameBytes.f (k : Nat) (f_Kind : Int) (f_At : Int) (f_Epoch : Int) (f_Body : ByteArray) : Option ByteArray := opq (i_frameBytes.s.run Try.prog (i_frameBytes.C k) k (f_Kind, f_At, f_Epoch, f_Body))
theorem i_frameBytes.ok (k : Nat) : CtrOk Try.prog 105 (i_frameBytes.s.ctr (fun x => i_frameBytes.f k x.1 x.2.1 x.2.2.1 x.2.2.2)) := sig_ok i_frameBytes.s (.cons (i_sumOn.ok k) .nil) (by kernel_rfl) fun _ => opq_eq _
theorem i_frameBytes.f_eq (k : Nat) (f_Kind : Int) (f_At : Int) (f_Epoch : Int) (f_Body : ByteArray) : i_frameBytes.f k f_Kind f_At f_Epoch f_Body =
 gd (appOk ([IntKind.u8.wrap f_Kind, IntKind.u8.wrap (f_At.fdiv ((2 : Int) ^ (8 : Nat))), IntKind.u8.wrap f_At, IntKind.u8.wrap (f_Epoch.fdiv ((2 : Int) ^ (8 : Nat))), IntKind.u8.wrap f_Epoch, IntKind.u8.wrap (↑f_Body.size : Int)].length + (bytesL f_Body).length) (Try.prog.bytesOf (5 : Nat)))
 (gd (decide ((0 : Int) ≤ IntKind.i64.wrap (IntKind.i64.wrap ((18 : Int) - (↑f_Body.size : Int)))) && appOk (([IntKind.u8.wrap f_Kind, IntKind.u8.wrap (f_At.fdiv ((2 : Int) ^ (8 : Nat))), IntKind.u8.wrap f_At, IntKind.u8.wrap (f_Epoch.fdiv ((2 : Int) ^ (8 : Nat))), IntKind.u8.wrap f_Epoch, IntKind.u8.wrap (↑f_Body.size : Int)] ++ bytesL f_Body).length + (List.replicate (IntKind.i64.wrap (IntKind.i64.wrap ((18 : Int) - (↑f_Body.size : Int)))).toNat (0 : Int)).length) (Try.prog.bytesOf (5 : Nat)))
  ((i_sumOn.f k (0 : Int) (strOfNums ([IntKind.u8.wrap f_Kind, IntKind.u8.wrap (f_At.fdiv ((2 : Int) ^ (8 : Nat))), IntKind.u8.wrap f_At, IntKind.u8.wrap (f_Epoch.fdiv ((2 : Int) ^ (8 : Nat))), IntKind.u8.wrap f_Epoch, IntKind.u8.wrap (↑f_Body.size : Int)] ++ bytesL f_Body ++ List.replicate (IntKind.i64.wrap (IntKind.i64.wrap ((18 : Int) - (↑f_Body.size : Int)))).toNat (0 : Int)))).bind fun d0 =>
   gd (appOk (([IntKind.u8.wrap f_Kind, IntKind.u8.wrap (f_At.fdiv ((2 : Int) ^ (8 : Nat))), IntKind.u8.wrap f_At, IntKind.u8.wrap (f_Epoch.fdiv ((2 : Int) ^ (8 : Nat))), IntKind.u8.wrap f_Epoch, IntKind.u8.wrap (↑f_Body.size : Int)] ++ bytesL f_Body ++ List.replicate (IntKind.i64.wrap (IntKind.i64.wrap ((18 : Int) - (↑f_Body.size : Int)))).toNat (0 : Int)).length + [IntKind.u8.wrap d0, IntKind.u8.wrap (Int.fdiv d0 ((2 : Int) ^ (8 : Nat))), IntKind.u8.wrap (Int.fdiv d0 ((2 : Int) ^ (16 : Nat))), IntKind.u8.wrap (Int.fdiv d0 ((2 : Int) ^ (24 : Nat)))].length) (Try.prog.bytesOf (5 : Nat)))
   (some (strOfNums ([IntKind.u8.wrap f_Kind, IntKind.u8.wrap (f_At.fdiv ((2 : Int) ^ (8 : Nat))), IntKind.u8.wrap f_At, IntKind.u8.wrap (f_Epoch.fdiv ((2 : Int) ^ (8 : Nat))), IntKind.u8.wrap f_Epoch, IntKind.u8.wrap (↑f_Body.size : Int)] ++ bytesL f_Body ++ List.replicate (IntKind.i64.wrap (IntKind.i64.wrap ((18 : Int) - (↑f_Body.size : Int)))).toNat (0 : Int) ++ [IntKind.u8.wrap d0, IntKind.u8.wrap (Int.fdiv d0 ((2 : Int) ^ (8 : Nat))), IntKind.u8.wrap (Int.fdiv d0 ((2 : Int) ^ (16 : Nat))), IntKind.u8.wrap (Int.fdiv d0 ((2 : Int) ^ (24 : Nat)))]))))) := (opq_eq _).trans (by kernel_rfl)
abbrev i_ReadFrame.s : Sig := ⟨102, [], [.val], [.one .str], [.agg [.int .i64, .int .i64, .int .i64, .str], .one (.int .i64), .one .bool], [], []⟩
noncomputable def i_ReadFrame.C (k : Nat) : List (Nat × Ctr) := [(105, i_frameBytes.s.ctr (fun x => i_frameBytes.f k x.1 x.2.1 x.2.2.1 x.2.2.2)), (126, i_sumOn.s.ctr (fun x => i_sumOn.f k x.1 x.2)), (127, i_GoodFrame.s.ctr (fun x => i_GoodFrame.f k x.1 x.2.1 x.2.2.1 x.2.2.2))]
noncomputable def i_ReadFrame.f (k : Nat) (s : ByteArray) : Option ((Int × Int × Int × ByteArray) × Int × Bool) := opq (i_ReadFrame.s.run Try.prog (i_ReadFrame.C k) k s)
theorem i_ReadFrame.ok (k : Nat) : CtrOk Try.prog 102 (i_ReadFrame.s.ctr (fun x => i_ReadFrame.f k x)) := sig_ok i_ReadFrame.s (.cons (i_frameBytes.ok k) (.cons (i_sumOn.ok k) (.cons (i_GoodFrame.ok k) .nil))) (by kernel_rfl) fun _ => opq_eq _
theorem i_ReadFrame.f_eq (k : Nat) (s : ByteArray) : i_ReadFrame.f k s =
 cn (!decide ((↑s.size : Int) = (28 : Int)))
 (some ((((0 : Int), (0 : Int), (0 : Int), ByteArray.empty), (1 : Int), false)))
 (gd (true && decide ((24 : Int) ≤ (↑s.size : Int)))
  ((i_sumOn.f k (0 : Int) (s.extract (0 : Nat) (24 : Nat))).bind fun d0 =>
   gd (true && decide ((24 : Int) ≤ (↑s.size : Int)))
   (cn (!decide ((s.extract (24 : Nat) s.size).toList = (strOfNums [IntKind.u8.wrap d0, IntKind.u8.wrap (Int.fdiv d0 ((2 : Int) ^ (8 : Nat))), IntKind.u8.wrap (Int.fdiv d0 ((2 : Int) ^ (16 : Nat))), IntKind.u8.wrap (Int.fdiv d0 ((2 : Int) ^ (24 : Nat)))]).toList))
    (some ((((0 : Int), (0 : Int), (0 : Int), ByteArray.empty), (2 : Int), false)))
    (gd (inb (0 : Int) s.size)
     (gd (inb (1 : Int) s.size)
      (gd (inb (2 : Int) s.size)
       (gd (inb (3 : Int) s.size)
        (gd (inb (4 : Int) s.size)
         (gd (inb (5 : Int) s.size)
          (gd (true && (decide ((6 : Int) ≤ IntKind.i64.wrap ((6 : Int) + cn (decide (IntKind.i64.wrap (↑(s.data.getD (5 : Nat) (0 : UInt8)).toNat : Int) < (16 : Int))) (IntKind.i64.wrap (↑(s.data.getD (5 : Nat) (0 : UInt8)).toNat : Int)) (16 : Int))) && decide (IntKind.i64.wrap ((6 : Int) + cn (decide (IntKind.i64.wrap (↑(s.data.getD (5 : Nat) (0 : UInt8)).toNat : Int) < (16 : Int))) (IntKind.i64.wrap (↑(s.data.getD (5 : Nat) (0 : UInt8)).toNat : Int)) (16 : Int)) ≤ (↑s.size : Int))))
           ((i_GoodFrame.f k (IntKind.i64.wrap (↑(s.data.getD (0 : Nat) (0 : UInt8)).toNat : Int)) (IntKind.i64.wrap (↑(BitVec.ofInt (64 : Nat) (IntKind.i64.wrap (IntKind.i64.wrap (↑(s.data.getD (1 : Nat) (0 : UInt8)).toNat : Int) * (2 : Int) ^ (8 : Nat))) ||| BitVec.ofInt (64 : Nat) (IntKind.i64.wrap (↑(s.data.getD (2 : Nat) (0 : UInt8)).toNat : Int))).toNat : Int)) (IntKind.i64.wrap (↑(BitVec.ofInt (64 : Nat) (IntKind.i64.wrap (IntKind.i64.wrap (↑(s.data.getD (3 : Nat) (0 : UInt8)).toNat : Int) * (2 : Int) ^ (8 : Nat))) ||| BitVec.ofInt (64 : Nat) (IntKind.i64.wrap (↑(s.data.getD (4 : Nat) (0 : UInt8)).toNat : Int))).toNat : Int)) (s.extract (6 : Nat) (IntKind.i64.wrap ((6 : Int) + cn (decide (IntKind.i64.wrap (↑(s.data.getD (5 : Nat) (0 : UInt8)).toNat : Int) < (16 : Int))) (IntKind.i64.wrap (↑(s.data.getD (5 : Nat) (0 : UInt8)).toNat : Int)) (16 : Int))).toNat)).bind fun d1 =>
            cn (!d1)
            (some ((((0 : Int), (0 : Int), (0 : Int), ByteArray.empty), (3 : Int), false)))
            ((i_frameBytes.f k (IntKind.i64.wrap (↑(s.data.getD (0 : Nat) (0 : UInt8)).toNat : Int)) (IntKind.i64.wrap (↑(BitVec.ofInt (64 : Nat) (IntKind.i64.wrap (IntKind.i64.wrap (↑(s.data.getD (1 : Nat) (0 : UInt8)).toNat : Int) * (2 : Int) ^ (8 : Nat))) ||| BitVec.ofInt (64 : Nat) (IntKind.i64.wrap (↑(s.data.getD (2 : Nat) (0 : UInt8)).toNat : Int))).toNat : Int)) (IntKind.i64.wrap (↑(BitVec.ofInt (64 : Nat) (IntKind.i64.wrap (IntKind.i64.wrap (↑(s.data.getD (3 : Nat) (0 : UInt8)).toNat : Int) * (2 : Int) ^ (8 : Nat))) ||| BitVec.ofInt (64 : Nat) (IntKind.i64.wrap (↑(s.data.getD (4 : Nat) (0 : UInt8)).toNat : Int))).toNat : Int)) (s.extract (6 : Nat) (IntKind.i64.wrap ((6 : Int) + cn (decide (IntKind.i64.wrap (↑(s.data.getD (5 : Nat) (0 : UInt8)).toNat : Int) < (16 : Int))) (IntKind.i64.wrap (↑(s.data.getD (5 : Nat) (0 : UInt8)).toNat : Int)) (16 : Int))).toNat)).bind fun d2 =>
             cn (!decide (ByteArray.toList d2 = s.toList))
             (some ((((0 : Int), (0 : Int), (0 : Int), ByteArray.empty), (3 : Int), false)))
             (some (((IntKind.i64.wrap (↑(s.data.getD (0 : Nat) (0 : UInt8)).toNat : Int), IntKind.i64.wrap (↑(BitVec.ofInt (64 : Nat) (IntKind.i64.wrap (IntKind.i64.wrap (↑(s.data.getD (1 : Nat) (0 : UInt8)).toNat : Int) * (2 : Int) ^ (8 : Nat))) ||| BitVec.ofInt (64 : Nat) (IntKind.i64.wrap (↑(s.data.getD (2 : Nat) (0 : UInt8)).toNat : Int))).toNat : Int), IntKind.i64.wrap (↑(BitVec.ofInt (64 : Nat) (IntKind.i64.wrap (IntKind.i64.wrap (↑(s.data.getD (3 : Nat) (0 : UInt8)).toNat : Int) * (2 : Int) ^ (8 : Nat))) ||| BitVec.ofInt (64 : Nat) (IntKind.i64.wrap (↑(s.data.getD (4 : Nat) (0 : UInt8)).toNat : Int))).toNat : Int), s.extract (6 : Nat) (IntKind.i64.wrap ((6 : Int) + cn (decide (IntKind.i64.wrap (↑(s.data.getD (5 : Nat) (0 : UInt8)).toNat : Int) < (16 : Int))) (IntKind.i64.wrap (↑(s.data.getD (5 : Nat) (0 : UInt8)).toNat : Int)) (16 : Int))).toNat), (0 : Int), true))))))))))))))) := (opq_eq _).trans (by kernel_rfl)
abbrev i_CheckFrame.s : Sig := ⟨56, [], [.val, .val, .val, .val], [.one .str, .one (.int .i64), .one (.int .i64), .one (.int .i64)], [.agg [.int .i64, .int .i64, .int .i64, .str], .one (.int .i64), .one .bool], [], []⟩
noncomputable def i_CheckFrame.C (k : Nat) : List (Nat × Ctr) := [(102, i_ReadFrame.s.ctr (fun x => i_ReadFrame.f k x))]
noncomputable def i_CheckFrame.f (k : Nat) (s : ByteArray) (kind : Int) (at_ : Int) (least : Int) : Option ((Int × Int × Int × ByteArray) × Int × Bool) := opq (i_CheckFrame.s.run Try.prog (i_CheckFrame.C k) k (s, kind, at_, least))
theorem i_CheckFrame.ok (k : Nat) : CtrOk Try.prog 56 (i_CheckFrame.s.ctr (fun x => i_CheckFrame.f k x.1 x.2.1 x.2.2.1 x.2.2.2)) := sig_ok i_CheckFrame.s (.cons (i_ReadFrame.ok k) .nil) (by kernel_rfl) fun _ => opq_eq _
theorem i_CheckFrame.f_eq (k : Nat) (s : ByteArray) (kind : Int) (at_ : Int) (least : Int) : i_CheckFrame.f k s kind at_ least =
 (i_ReadFrame.f k s).bind fun d0 =>
 cn (!d0.snd.snd)
 (cn (!decide (d0.snd.fst = (0 : Int)))
  (some ((((0 : Int), (0 : Int), (0 : Int), ByteArray.empty), d0.snd.fst, false)))
  (some (((d0.fst.fst, d0.fst.snd.fst, d0.fst.snd.snd.fst, d0.fst.snd.snd.snd), (0 : Int), true))))
 (cn (!decide (d0.fst.fst = kind))
  (some ((((0 : Int), (0 : Int), (0 : Int), ByteArray.empty), (3 : Int), false)))
  (cn (!decide (d0.fst.snd.fst = at_))
   (some ((((0 : Int), (0 : Int), (0 : Int), ByteArray.empty), (4 : Int), false)))
   (cn (decide (d0.fst.snd.snd.fst < least))
    (some ((((0 : Int), (0 : Int), (0 : Int), ByteArray.empty), (5 : Int), false)))
    (cn (!decide (d0.snd.fst = (0 : Int)))
     (some ((((0 : Int), (0 : Int), (0 : Int), ByteArray.empty), d0.snd.fst, false)))
     (some (((d0.fst.fst, d0.fst.snd.fst, d0.fst.snd.snd.fst, d0.fst.snd.snd.snd), (0 : Int), true))))))) := (opq_eq _).trans (by kernel_rfl)
abbrev i_halfOf.s : Sig := ⟨57, [], [.val], [.one (.int .i64)], [.one (.int .i64)], [], []⟩
noncomputable def i_halfOf.C (k : Nat) : List (Nat × Ctr) := []
noncomputable def i_halfOf.f (k : Nat) (epoch : Int) : Option Int := opq (i_halfOf.s.run Try.prog (i_halfOf.C k) k epoch)
theorem i_halfOf.ok (k : Nat) : CtrOk Try.prog 57 (i_halfOf.s.ctr (fun x => i_halfOf.f k x)) := sig_ok i_halfOf.s .nil (by kernel_rfl) fun _ => opq_eq _
theorem i_halfOf.f_eq (k : Nat) (epoch : Int) : i_halfOf.f k epoch =
 some (IntKind.i64.wrap ((1 : Int) + IntKind.i64.wrap ((2 : Int) * epoch.tmod (2 : Int)))) := (opq_eq _).trans (by kernel_rfl)
abbrev i_StateFrom.s : Sig := ⟨19, [], [.val], [.one (.row 9 .str)], [.one (.own 3 (.int .i64)), .one .bool], [], []⟩
noncomputable def i_StateFrom.f (k : Nat) (l : List ByteArray) : Option (List Int × Bool) := sfF l
theorem i_StateFrom.ok (k : Nat) : CtrOk Try.prog 19 (i_StateFrom.s.ctr fun x => i_StateFrom.f k x) := sf_ctr
abbrev i_RecoverFrom.s : Sig := ⟨13, [], [.val], [.agg [.row 9 .str, .row 9 .str, .row 4 .bool]], [.one (.own 3 (.int .i64)), .one (.int .i64), .one .bool], [], [(0, [(1,false),(7,false),(10,true),(42,false)])]⟩
noncomputable def i_RecoverFrom.C (k : Nat) : List (Nat × Ctr) := [(19, i_StateFrom.s.ctr (fun x => i_StateFrom.f k x)), (42, i_GoodDisk.s.ctr (fun x => i_GoodDisk.f k x.1 x.2.1 x.2.2)), (55, i_ReadSector.s.ctr (fun x => i_ReadSector.f k x.1.1 x.1.2.1 x.1.2.2 x.2)), (56, i_CheckFrame.s.ctr (fun x => i_CheckFrame.f k x.1 x.2.1 x.2.2.1 x.2.2.2)), (57, i_halfOf.s.ctr (fun x => i_halfOf.f k x))]
noncomputable def i_RecoverFrom.f (k : Nat) (d_Plate : List ByteArray) (d_Held : List ByteArray) (d_Bad : List Bool) : Option (List Int × Int × Bool) := opq (i_RecoverFrom.s.run Try.prog (i_RecoverFrom.C k) k (d_Plate, d_Held, d_Bad))
theorem i_RecoverFrom.ok (k : Nat) : CtrOk Try.prog 13 (i_RecoverFrom.s.ctr (fun x => i_RecoverFrom.f k x.1 x.2.1 x.2.2)) := sig_ok i_RecoverFrom.s (.cons (i_StateFrom.ok k) (.cons (i_GoodDisk.ok k) (.cons (i_ReadSector.ok k) (.cons (i_CheckFrame.ok k) (.cons (i_halfOf.ok k) .nil))))) (by kernel_rfl) fun _ => opq_eq _
noncomputable def i_RecoverFrom.l0 (k : Nat) (m : Nat) (t42 : Int) (h1 : List ByteArray) (h1_ : List ByteArray) (h1__ : List Bool) (h2 : Int) (h2_ : Int) (h2__ : Int) (h2___ : ByteArray) (h3 : List ByteArray) : Option (List Int × Int × Bool) := i_RecoverFrom.s.head Try.prog (i_RecoverFrom.C k) k 1 0 [] m [(1, AV.ptr 1 0 0), (7, AV.ptr 2 0 0), (10, AV.ref 3), (42, AV.int IntKind.i64 t42)] [Root.dead, Root.box 26 [AV.row 9 Kind.str h1, AV.row 9 Kind.str h1_, AV.row 4 Kind.bool h1__], Root.box 85 [AV.int IntKind.i64 h2, AV.int IntKind.i64 h2_, AV.int IntKind.i64 h2__, AV.str h2___], Root.rows 9 Kind.str h3]
theorem i_RecoverFrom.l0_z (k : Nat) (t42 : Int) (h1 : List ByteArray) (h1_ : List ByteArray) (h1__ : List Bool) (h2 : Int) (h2_ : Int) (h2__ : Int) (h2___ : ByteArray) (h3 : List ByteArray) : i_RecoverFrom.l0 k 0 t42 h1 h1_ h1__ h2 h2_ h2__ h2___ h3 = none := by kernel_rfl
theorem i_RecoverFrom.l0_s (k : Nat) (m : Nat) (t42 : Int) (h1 : List ByteArray) (h1_ : List ByteArray) (h1__ : List Bool) (h2 : Int) (h2_ : Int) (h2__ : Int) (h2___ : ByteArray) (h3 : List ByteArray) : i_RecoverFrom.l0 k (m + 1) t42 h1 h1_ h1__ h2 h2_ h2__ h2___ h3 =
 cn (decide (t42 < (2 : Int)))
 ((i_halfOf.f k h2__).bind fun d1 =>
  (i_ReadSector.f k h1 h1_ h1__ (IntKind.i64.wrap (d1 + t42))).bind fun d2 =>
  (i_CheckFrame.f k d2.fst (3 : Int) (IntKind.i64.wrap (d1 + t42)) h2__).bind fun d3 =>
  cn (!d3.snd.snd)
  (some (([], (0 : Int), false)))
  (cn (!decide (d3.fst.snd.snd.fst = h2__))
   (some (([], (0 : Int), false)))
   (gd (appOk (h3.length + [d3.fst.snd.snd.snd].length) (Try.prog.bytesOf (9 : Nat)))
    (i_RecoverFrom.l0 k m (IntKind.i64.wrap (t42 + (1 : Int))) h1 h1_ h1__ h2 h2_ h2__ h2___ (h3 ++ [d3.fst.snd.snd.snd])))))
 ((i_StateFrom.f k h3).bind fun d1 =>
  cn (!d1.snd)
  (some (([], (0 : Int), false)))
  (some ((d1.fst, h2__, true)))) := by kernel_rfl
theorem i_RecoverFrom.f_eq (k : Nat) (d_Plate : List ByteArray) (d_Held : List ByteArray) (d_Bad : List Bool) : i_RecoverFrom.f k d_Plate d_Held d_Bad =
 (i_GoodDisk.f k d_Plate d_Held d_Bad).bind fun d0 =>
 cn (!d0)
 (some (([], (0 : Int), false)))
 (cn (!decide ((↑d_Plate.length : Int) = (5 : Int)))
  (some (([], (0 : Int), false)))
  ((i_ReadSector.f k d_Plate d_Held d_Bad (0 : Int)).bind fun d1 =>
   (i_CheckFrame.f k d1.fst (4 : Int) (0 : Int) (0 : Int)).bind fun d2 =>
   cn (!d2.snd.snd)
   (some (([], (0 : Int), false)))
   (i_RecoverFrom.l0 k k ((0 : Int)) d_Plate d_Held d_Bad d2.fst.fst d2.fst.snd.fst d2.fst.snd.snd.fst d2.fst.snd.snd.snd ([])))) := (opq_eq _).trans (by kernel_rfl)
abbrev b_Equal_int.s : Sig := ⟨47, [], [.val, .val], [.one (.row 3 (.int .i64)), .one (.row 3 (.int .i64))], [.one .bool], [], [(0, [(0,false),(1,false),(12,false),(13,false)])]⟩
noncomputable def b_Equal_int.C (k : Nat) : List (Nat × Ctr) := []
noncomputable def b_Equal_int.f (k : Nat) (s1 : List Int) (s2 : List Int) : Option Bool := opq (b_Equal_int.s.run Try.prog (b_Equal_int.C k) k (s1, s2))
theorem b_Equal_int.ok (k : Nat) : CtrOk Try.prog 47 (b_Equal_int.s.ctr (fun x => b_Equal_int.f k x.1 x.2)) := sig_ok b_Equal_int.s .nil (by kernel_rfl) fun _ => opq_eq _
noncomputable def b_Equal_int.l0 (k : Nat) (m : Nat) (s10 : List Int) (s21 : List Int) (t12 : Int) (t13 : Int) : Option Bool := b_Equal_int.s.head Try.prog (b_Equal_int.C k) k 1 0 [] m [(0, AV.row 3 (Kind.int IntKind.i64) s10), (1, AV.row 3 (Kind.int IntKind.i64) s21), (12, AV.int IntKind.i64 t12), (13, AV.int IntKind.i64 t13)] [Root.dead]
theorem b_Equal_int.l0_z (k : Nat) (s10 : List Int) (s21 : List Int) (t12 : Int) (t13 : Int) : b_Equal_int.l0 k 0 s10 s21 t12 t13 = none := by kernel_rfl
theorem b_Equal_int.l0_s (k : Nat) (m : Nat) (s10 : List Int) (s21 : List Int) (t12 : Int) (t13 : Int) : b_Equal_int.l0 k (m + 1) s10 s21 t12 t13 =
 cn (decide (t13 < t12))
 (gd (inb t13 s10.length)
  (gd (inb t13 s21.length)
   (cn (!decide (getAt (0 : Int) s10 t13.toNat = getAt (0 : Int) s21 t13.toNat))
    (some false)
    (b_Equal_int.l0 k m s10 s21 t12 (IntKind.i64.wrap (t13 + (1 : Int)))))))
 (some true) := by kernel_rfl
theorem b_Equal_int.f_eq (k : Nat) (s1 : List Int) (s2 : List Int) : b_Equal_int.f k s1 s2 =
 cn (!decide ((↑s1.length : Int) = (↑s2.length : Int)))
 (some false)
 (b_Equal_int.l0 k k s1 s2 ((↑s1.length : Int)) ((0 : Int))) := (opq_eq _).trans (by kernel_rfl)
abbrev i_GoodJournal.s : Sig := ⟨9, [], [.val], [.agg [.row 9 .str, .row 9 .str, .row 4 .bool, .int .i64, .int .i64, .row 3 (.int .i64), .row 3 (.int .i64)]], [.one .bool], [], []⟩
noncomputable def i_GoodJournal.C (k : Nat) : List (Nat × Ctr) := [(13, i_RecoverFrom.s.ctr (fun x => i_RecoverFrom.f k x.1 x.2.1 x.2.2)), (42, i_GoodDisk.s.ctr (fun x => i_GoodDisk.f k x.1 x.2.1 x.2.2)), (43, b_Contains_bool.s.ctr (fun x => b_Contains_bool.f k x.1 x.2)), (44, i_within.s.ctr (fun x => i_within.f k x.1 x.2.1 x.2.2)), (45, i_isState.s.ctr (fun x => i_isState.f k x)), (46, i_crashed.s.ctr (fun x => i_crashed.f k x.1.1 x.1.2.1 x.1.2.2 x.2)), (47, b_Equal_int.s.ctr (fun x => b_Equal_int.f k x.1 x.2))]
noncomputable def i_GoodJournal.f (k : Nat) (j_Disk_Plate : List ByteArray) (j_Disk_Held : List ByteArray) (j_Disk_Bad : List Bool) (j_Epoch : Int) (j_Phase : Int) (j_Acked : List Int) (j_Coming : List Int) : Option Bool := opq (i_GoodJournal.s.run Try.prog (i_GoodJournal.C k) k (j_Disk_Plate, j_Disk_Held, j_Disk_Bad, j_Epoch, j_Phase, j_Acked, j_Coming))
theorem i_GoodJournal.ok (k : Nat) : CtrOk Try.prog 9 (i_GoodJournal.s.ctr (fun x => i_GoodJournal.f k x.1 x.2.1 x.2.2.1 x.2.2.2.1 x.2.2.2.2.1 x.2.2.2.2.2.1 x.2.2.2.2.2.2)) := sig_ok i_GoodJournal.s (.cons (i_RecoverFrom.ok k) (.cons (i_GoodDisk.ok k) (.cons (b_Contains_bool.ok k) (.cons (i_within.ok k) (.cons (i_isState.ok k) (.cons (i_crashed.ok k) (.cons (b_Equal_int.ok k) .nil))))))) (by kernel_rfl) fun _ => opq_eq _
theorem i_GoodJournal.f_eq (k : Nat) (j_Disk_Plate : List ByteArray) (j_Disk_Held : List ByteArray) (j_Disk_Bad : List Bool) (j_Epoch : Int) (j_Phase : Int) (j_Acked : List Int) (j_Coming : List Int) : i_GoodJournal.f k j_Disk_Plate j_Disk_Held j_Disk_Bad j_Epoch j_Phase j_Acked j_Coming =
 (i_GoodDisk.f k j_Disk_Plate j_Disk_Held j_Disk_Bad).bind fun d0 =>
 cn (!d0)
 (some false)
 (cn (!decide ((↑j_Disk_Plate.length : Int) = (5 : Int)))
  (some false)
  ((b_Contains_bool.f k j_Disk_Bad true).bind fun d1 =>
   cn d1
   (some false)
   ((i_within.f k j_Phase (0 : Int) (3 : Int)).bind fun d2 =>
    cn (!d2)
    (some false)
    ((i_isState.f k j_Acked).bind fun d3 =>
     cn (!d3)
     (some false)
     (cn (decide (j_Phase = (0 : Int)))
      (cn (decide ((0 : Int) < (↑j_Coming.length : Int)))
       (some false)
       (cn (decide ((0 : Int) < j_Phase))
        ((i_isState.f k j_Coming).bind fun d4 =>
         cn (!d4)
         (some false)
         ((i_crashed.f k j_Disk_Plate j_Disk_Held j_Disk_Bad []).bind fun d5 =>
          (i_RecoverFrom.f k d5.fst d5.snd.fst d5.snd.snd).bind fun d6 =>
          cn d6.snd.snd
          (cn (decide (d6.snd.fst = j_Epoch))
           ((b_Equal_int.f k d6.fst j_Acked).bind fun d7 =>
            some d7)
           (some false))
          (some false)))
        ((i_crashed.f k j_Disk_Plate j_Disk_Held j_Disk_Bad []).bind fun d4 =>
         (i_RecoverFrom.f k d4.fst d4.snd.fst d4.snd.snd).bind fun d5 =>
         cn d5.snd.snd
         (cn (decide (d5.snd.fst = j_Epoch))
          ((b_Equal_int.f k d5.fst j_Acked).bind fun d6 =>
           some d6)
          (some false))
         (some false))))
      (cn (decide ((0 : Int) < j_Phase))
       ((i_isState.f k j_Coming).bind fun d4 =>
        cn (!d4)
        (some false)
        ((i_crashed.f k j_Disk_Plate j_Disk_Held j_Disk_Bad []).bind fun d5 =>
         (i_RecoverFrom.f k d5.fst d5.snd.fst d5.snd.snd).bind fun d6 =>
         cn d6.snd.snd
         (cn (decide (d6.snd.fst = j_Epoch))
          ((b_Equal_int.f k d6.fst j_Acked).bind fun d7 =>
           some d7)
          (some false))
         (some false)))
       ((i_crashed.f k j_Disk_Plate j_Disk_Held j_Disk_Bad []).bind fun d4 =>
        (i_RecoverFrom.f k d4.fst d4.snd.fst d4.snd.snd).bind fun d5 =>
        cn d5.snd.snd
        (cn (decide (d5.snd.fst = j_Epoch))
         ((b_Equal_int.f k d5.fst j_Acked).bind fun d6 =>
          some d6)
         (some false))
        (some false)))))))) := (opq_eq _).trans (by kernel_rfl)
abbrev b_Clone_int.s : Sig := ⟨87, [], [.val], [.one (.row 3 (.int .i64))], [.one (.own 3 (.int .i64))], [], []⟩
noncomputable def b_Clone_int.C (k : Nat) : List (Nat × Ctr) := []
noncomputable def b_Clone_int.f (k : Nat) (s : List Int) : Option (List Int) := opq (b_Clone_int.s.run Try.prog (b_Clone_int.C k) k s)
theorem b_Clone_int.ok (k : Nat) : CtrOk Try.prog 87 (b_Clone_int.s.ctr (fun x => b_Clone_int.f k x)) := sig_ok b_Clone_int.s .nil (by kernel_rfl) fun _ => opq_eq _
theorem b_Clone_int.f_eq (k : Nat) (s : List Int) : b_Clone_int.f k s =
 cn (noEl s)
 (both
  (some ([]))
  (gd (appOk ((0 : Nat) + s.length) (Try.prog.bytesOf (3 : Nat)))
   (some ([] ++ s))))
 (gd (appOk ((0 : Nat) + s.length) (Try.prog.bytesOf (3 : Nat)))
  (some ([] ++ s))) := (opq_eq _).trans (by kernel_rfl)
abbrev i_ownJournal.s : Sig := ⟨86, [], [.val], [.agg [.row 9 .str, .row 9 .str, .row 4 .bool, .int .i64, .int .i64, .row 3 (.int .i64), .row 3 (.int .i64)]], [.agg [.own 9 .str, .own 9 .str, .own 4 .bool, .int .i64, .int .i64, .own 3 (.int .i64), .own 3 (.int .i64)]], [], []⟩
noncomputable def i_ownJournal.C (k : Nat) : List (Nat × Ctr) := [(87, b_Clone_int.s.ctr (fun x => b_Clone_int.f k x)), (96, i_ownDisk.s.ctr (fun x => i_ownDisk.f k x.1 x.2.1 x.2.2))]
noncomputable def i_ownJournal.f (k : Nat) (j_Disk_Plate : List ByteArray) (j_Disk_Held : List ByteArray) (j_Disk_Bad : List Bool) (j_Epoch : Int) (j_Phase : Int) (j_Acked : List Int) (j_Coming : List Int) : Option (List ByteArray × List ByteArray × List Bool × Int × Int × List Int × List Int) := opq (i_ownJournal.s.run Try.prog (i_ownJournal.C k) k (j_Disk_Plate, j_Disk_Held, j_Disk_Bad, j_Epoch, j_Phase, j_Acked, j_Coming))
theorem i_ownJournal.ok (k : Nat) : CtrOk Try.prog 86 (i_ownJournal.s.ctr (fun x => i_ownJournal.f k x.1 x.2.1 x.2.2.1 x.2.2.2.1 x.2.2.2.2.1 x.2.2.2.2.2.1 x.2.2.2.2.2.2)) := sig_ok i_ownJournal.s (.cons (b_Clone_int.ok k) (.cons (i_ownDisk.ok k) .nil)) (by kernel_rfl) fun _ => opq_eq _
theorem i_ownJournal.f_eq (k : Nat) (j_Disk_Plate : List ByteArray) (j_Disk_Held : List ByteArray) (j_Disk_Bad : List Bool) (j_Epoch : Int) (j_Phase : Int) (j_Acked : List Int) (j_Coming : List Int) : i_ownJournal.f k j_Disk_Plate j_Disk_Held j_Disk_Bad j_Epoch j_Phase j_Acked j_Coming =
 (i_ownDisk.f k j_Disk_Plate j_Disk_Held j_Disk_Bad).bind fun d0 =>
 (b_Clone_int.f k j_Acked).bind fun d1 =>
 (b_Clone_int.f k j_Coming).bind fun d2 =>
 some ((d0.fst, d0.snd.fst, d0.snd.snd, j_Epoch, j_Phase, d1, d2)) := (opq_eq _).trans (by kernel_rfl)
abbrev i_stateBytes.s : Sig := ⟨59, [], [.val], [.one (.row 3 (.int .i64))], [.one (.own 9 .str)], [], [(0, [(3,true),(7,true),(8,false),(9,false)])]⟩
noncomputable def i_stateBytes.C (k : Nat) : List (Nat × Ctr) := []
noncomputable def i_stateBytes.f (k : Nat) (values : List Int) : Option (List ByteArray) := opq (i_stateBytes.s.run Try.prog (i_stateBytes.C k) k values)
theorem i_stateBytes.ok (k : Nat) : CtrOk Try.prog 59 (i_stateBytes.s.ctr (fun x => i_stateBytes.f k x)) := sig_ok i_stateBytes.s .nil (by kernel_rfl) fun _ => opq_eq _
noncomputable def i_stateBytes.l0 (k : Nat) (m : Nat) (t7 : List Int) (t8 : Int) (t9 : Int) (h1 : List Int) : Option (List ByteArray) := i_stateBytes.s.head Try.prog (i_stateBytes.C k) k 1 0 [] m [(3, AV.ref 1), (7, AV.row 3 (Kind.int IntKind.i64) t7), (8, AV.int IntKind.i64 t8), (9, AV.int IntKind.i64 t9)] [Root.dead, Root.rows 5 (Kind.int IntKind.u8) h1]
theorem i_stateBytes.l0_z (k : Nat) (t7 : List Int) (t8 : Int) (t9 : Int) (h1 : List Int) : i_stateBytes.l0 k 0 t7 t8 t9 h1 = none := by kernel_rfl
theorem i_stateBytes.l0_s (k : Nat) (m : Nat) (t7 : List Int) (t8 : Int) (t9 : Int) (h1 : List Int) : i_stateBytes.l0 k (m + 1) t7 t8 t9 h1 =
 cn (decide (t9 < t8))
 (gd (inb t9 t7.length)
  (gd (appOk (h1.length + [IntKind.u8.wrap ((getAt (0 : Int) t7 t9.toNat).fdiv ((2 : Int) ^ (8 : Nat))), IntKind.u8.wrap (getAt (0 : Int) t7 t9.toNat)].length) (Try.prog.bytesOf (5 : Nat)))
   (i_stateBytes.l0 k m t7 t8 (IntKind.i64.wrap (t9 + (1 : Int))) (h1 ++ [IntKind.u8.wrap ((getAt (0 : Int) t7 t9.toNat).fdiv ((2 : Int) ^ (8 : Nat))), IntKind.u8.wrap (getAt (0 : Int) t7 t9.toNat)]))))
 (gd (true && decide ((6 : Int) ≤ (↑h1.length : Int)))
  (gd (true && decide ((6 : Int) ≤ (↑h1.length : Int)))
   (dup
    (some ([strOfNums (List.take (6 : Nat) (List.drop (0 : Nat) h1)), strOfNums (List.take (h1.length - (6 : Nat)) (List.drop (6 : Nat) h1))]))))) := by kernel_rfl
theorem i_stateBytes.f_eq (k : Nat) (values : List Int) : i_stateBytes.f k values =
 i_stateBytes.l0 k k values ((↑values.length : Int)) ((0 : Int)) ([]) := (opq_eq _).trans (by kernel_rfl)
abbrev i_sectorsOf.s : Sig := ⟨68, [], [.val, .val], [.one (.int .i64), .one (.row 3 (.int .i64))], [.one (.own 9 .str), .one (.int .i64)], [], [(0, [(0,false),(6,false),(7,true),(14,true),(15,false),(16,false)])]⟩
noncomputable def i_sectorsOf.C (k : Nat) : List (Nat × Ctr) := [(105, i_frameBytes.s.ctr (fun x => i_frameBytes.f k x.1 x.2.1 x.2.2.1 x.2.2.2)), (57, i_halfOf.s.ctr (fun x => i_halfOf.f k x)), (59, i_stateBytes.s.ctr (fun x => i_stateBytes.f k x))]
noncomputable def i_sectorsOf.f (k : Nat) (epoch : Int) (values : List Int) : Option (List ByteArray × Int) := opq (i_sectorsOf.s.run Try.prog (i_sectorsOf.C k) k (epoch, values))
theorem i_sectorsOf.ok (k : Nat) : CtrOk Try.prog 68 (i_sectorsOf.s.ctr (fun x => i_sectorsOf.f k x.1 x.2)) := sig_ok i_sectorsOf.s (.cons (i_frameBytes.ok k) (.cons (i_halfOf.ok k) (.cons (i_stateBytes.ok k) .nil))) (by kernel_rfl) fun _ => opq_eq _
noncomputable def i_sectorsOf.l0 (k : Nat) (m : Nat) (epoch0 : Int) (at6 : Int) (t15 : Int) (t16 : Int) (h1 : List ByteArray) (h2 : List ByteArray) : Option (List ByteArray × Int) := i_sectorsOf.s.head Try.prog (i_sectorsOf.C k) k 1 0 [] m [(0, AV.int IntKind.i64 epoch0), (6, AV.int IntKind.i64 at6), (7, AV.ref 1), (14, AV.ref 2), (15, AV.int IntKind.i64 t15), (16, AV.int IntKind.i64 t16)] [Root.dead, Root.rows 9 Kind.str h1, Root.rows 9 Kind.str h2]
theorem i_sectorsOf.l0_z (k : Nat) (epoch0 : Int) (at6 : Int) (t15 : Int) (t16 : Int) (h1 : List ByteArray) (h2 : List ByteArray) : i_sectorsOf.l0 k 0 epoch0 at6 t15 t16 h1 h2 = none := by kernel_rfl
theorem i_sectorsOf.l0_s (k : Nat) (m : Nat) (epoch0 : Int) (at6 : Int) (t15 : Int) (t16 : Int) (h1 : List ByteArray) (h2 : List ByteArray) : i_sectorsOf.l0 k (m + 1) epoch0 at6 t15 t16 h1 h2 =
 cn (decide (t16 < t15))
 (gd (inb t16 h2.length)
  ((i_frameBytes.f k (3 : Int) (IntKind.i64.wrap (at6 + t16)) epoch0 (getAt ByteArray.empty h2 t16.toNat)).bind fun d2 =>
   gd (appOk (h1.length + [d2].length) (Try.prog.bytesOf (9 : Nat)))
   (i_sectorsOf.l0 k m epoch0 at6 t15 (IntKind.i64.wrap (t16 + (1 : Int))) (h1 ++ [d2]) h2)))
 (some ((h1, at6))) := by kernel_rfl
theorem i_sectorsOf.f_eq (k : Nat) (epoch : Int) (values : List Int) : i_sectorsOf.f k epoch values =
 (i_halfOf.f k epoch).bind fun d0 =>
 (i_stateBytes.f k values).bind fun d1 =>
 i_sectorsOf.l0 k k epoch d0 ((↑(List.length d1) : Int)) ((0 : Int)) ([]) d1 := (opq_eq _).trans (by kernel_rfl)
abbrev i_heldIn.s : Sig := ⟨88, [], [.val], [.agg [.row 9 .str, .row 9 .str, .row 4 .bool]], [.one (.own 3 (.int .i64))], [], [(0, [(3,true),(8,true),(9,false),(10,false)])]⟩
noncomputable def i_heldIn.C (k : Nat) : List (Nat × Ctr) := []
noncomputable def i_heldIn.f (k : Nat) (d_Plate : List ByteArray) (d_Held : List ByteArray) (d_Bad : List Bool) : Option (List Int) := opq (i_heldIn.s.run Try.prog (i_heldIn.C k) k (d_Plate, d_Held, d_Bad))
theorem i_heldIn.ok (k : Nat) : CtrOk Try.prog 88 (i_heldIn.s.ctr (fun x => i_heldIn.f k x.1 x.2.1 x.2.2)) := sig_ok i_heldIn.s .nil (by kernel_rfl) fun _ => opq_eq _
noncomputable def i_heldIn.l0 (k : Nat) (m : Nat) (t8 : List ByteArray) (t9 : Int) (t10 : Int) (h1 : List Int) : Option (List Int) := i_heldIn.s.head Try.prog (i_heldIn.C k) k 1 0 [] m [(3, AV.ref 1), (8, AV.row 9 Kind.str t8), (9, AV.int IntKind.i64 t9), (10, AV.int IntKind.i64 t10)] [Root.dead, Root.rows 3 (Kind.int IntKind.i64) h1]
theorem i_heldIn.l0_z (k : Nat) (t8 : List ByteArray) (t9 : Int) (t10 : Int) (h1 : List Int) : i_heldIn.l0 k 0 t8 t9 t10 h1 = none := by kernel_rfl
theorem i_heldIn.l0_s (k : Nat) (m : Nat) (t8 : List ByteArray) (t9 : Int) (t10 : Int) (h1 : List Int) : i_heldIn.l0 k (m + 1) t8 t9 t10 h1 =
 cn (decide (t10 < t9))
 (gd (inb t10 t8.length)
  (cn (!decide ((getAt ByteArray.empty t8 t10.toNat).toList = ByteArray.empty.toList))
   (gd (appOk (h1.length + [t10].length) (Try.prog.bytesOf (3 : Nat)))
    (i_heldIn.l0 k m t8 t9 (IntKind.i64.wrap (t10 + (1 : Int))) (h1 ++ [t10])))
   (i_heldIn.l0 k m t8 t9 (IntKind.i64.wrap (t10 + (1 : Int))) h1)))
 (some h1) := by kernel_rfl
theorem i_heldIn.f_eq (k : Nat) (d_Plate : List ByteArray) (d_Held : List ByteArray) (d_Bad : List Bool) : i_heldIn.f k d_Plate d_Held d_Bad =
 i_heldIn.l0 k k d_Held ((↑d_Held.length : Int)) ((0 : Int)) ([]) := (opq_eq _).trans (by kernel_rfl)
abbrev i_rootOf.s : Sig := ⟨69, [], [.val], [.one (.int .i64)], [.one .str], [], []⟩
noncomputable def i_rootOf.C (k : Nat) : List (Nat × Ctr) := [(105, i_frameBytes.s.ctr (fun x => i_frameBytes.f k x.1 x.2.1 x.2.2.1 x.2.2.2))]
noncomputable def i_rootOf.f (k : Nat) (epoch : Int) : Option ByteArray := opq (i_rootOf.s.run Try.prog (i_rootOf.C k) k epoch)
theorem i_rootOf.ok (k : Nat) : CtrOk Try.prog 69 (i_rootOf.s.ctr (fun x => i_rootOf.f k x)) := sig_ok i_rootOf.s (.cons (i_frameBytes.ok k) .nil) (by kernel_rfl) fun _ => opq_eq _
theorem i_rootOf.f_eq (k : Nat) (epoch : Int) : i_rootOf.f k epoch =
 (i_frameBytes.f k (4 : Int) (0 : Int) epoch ByteArray.empty).bind fun d0 =>
 some d0 := (opq_eq _).trans (by kernel_rfl)
abbrev i_isRising.s : Sig := ⟨119, [], [.val, .val], [.one (.row 3 (.int .i64)), .one (.int .i64)], [.one .bool], [], [(0, [(0,false),(1,false),(7,true),(8,false),(9,false)])]⟩
noncomputable def i_isRising.C (k : Nat) : List (Nat × Ctr) := [(44, i_within.s.ctr (fun x => i_within.f k x.1 x.2.1 x.2.2))]
noncomputable def i_isRising.f (k : Nat) (list : List Int) (below : Int) : Option Bool := opq (i_isRising.s.run Try.prog (i_isRising.C k) k (list, below))
theorem i_isRising.ok (k : Nat) : CtrOk Try.prog 119 (i_isRising.s.ctr (fun x => i_isRising.f k x.1 x.2)) := sig_ok i_isRising.s (.cons (i_within.ok k) .nil) (by kernel_rfl) fun _ => opq_eq _
noncomputable def i_isRising.l0 (k : Nat) (m : Nat) (list0 : List Int) (below1 : Int) (t7 : List Int) (t8 : Int) (t9 : Int) : Option Bool := i_isRising.s.head Try.prog (i_isRising.C k) k 1 0 [] m [(0, AV.row 3 (Kind.int IntKind.i64) list0), (1, AV.int IntKind.i64 below1), (7, AV.row 3 (Kind.int IntKind.i64) t7), (8, AV.int IntKind.i64 t8), (9, AV.int IntKind.i64 t9)] [Root.dead]
theorem i_isRising.l0_z (k : Nat) (list0 : List Int) (below1 : Int) (t7 : List Int) (t8 : Int) (t9 : Int) : i_isRising.l0 k 0 list0 below1 t7 t8 t9 = none := by kernel_rfl
theorem i_isRising.l0_s (k : Nat) (m : Nat) (list0 : List Int) (below1 : Int) (t7 : List Int) (t8 : Int) (t9 : Int) : i_isRising.l0 k (m + 1) list0 below1 t7 t8 t9 =
 cn (decide (t9 < t8))
 (gd (inb t9 t7.length)
  ((i_within.f k (getAt (0 : Int) t7 t9.toNat) (0 : Int) (IntKind.i64.wrap (below1 - (1 : Int)))).bind fun d0 =>
   cn (!d0)
   (some false)
   (cn (decide ((0 : Int) < t9))
    (gd (inb (IntKind.i64.wrap (t9 - (1 : Int))) list0.length)
     (cn (decide (getAt (0 : Int) t7 t9.toNat ≤ getAt (0 : Int) list0 (IntKind.i64.wrap (t9 - (1 : Int))).toNat))
      (some false)
      (i_isRising.l0 k m list0 below1 t7 t8 (IntKind.i64.wrap (t9 + (1 : Int))))))
    (i_isRising.l0 k m list0 below1 t7 t8 (IntKind.i64.wrap (t9 + (1 : Int)))))))
 (some true) := by kernel_rfl
theorem i_isRising.f_eq (k : Nat) (list : List Int) (below : Int) : i_isRising.f k list below =
 i_isRising.l0 k k list below list ((↑list.length : Int)) ((0 : Int)) := (opq_eq _).trans (by kernel_rfl)
abbrev i_areHeld_1.s : Sig := ⟨120, [], [.val, .pbox 26], [.one (.int .i64), .agg [.row 9 .str, .row 9 .str, .row 4 .bool]], [.one .bool], [.box 26 [.row 9 .str, .row 9 .str, .row 4 .bool]], []⟩
noncomputable def i_areHeld_1.C (k : Nat) : List (Nat × Ctr) := []
noncomputable def i_areHeld_1.f (k : Nat) (at_ : Int) (free_c0_Plate : List ByteArray) (free_c0_Held : List ByteArray) (free_c0_Bad : List Bool) : Option (Bool × (List ByteArray × List ByteArray × List Bool)) := opq (i_areHeld_1.s.run Try.prog (i_areHeld_1.C k) k (at_, (free_c0_Plate, free_c0_Held, free_c0_Bad)))
theorem i_areHeld_1.ok (k : Nat) : CtrOk Try.prog 120 (i_areHeld_1.s.ctr (fun x => i_areHeld_1.f k x.1 x.2.1 x.2.2.1 x.2.2.2)) := sig_ok i_areHeld_1.s .nil (by kernel_rfl) fun _ => opq_eq _
theorem i_areHeld_1.f_eq (k : Nat) (at_ : Int) (free_c0_Plate : List ByteArray) (free_c0_Held : List ByteArray) (free_c0_Bad : List Bool) : i_areHeld_1.f k at_ free_c0_Plate free_c0_Held free_c0_Bad =
 gd (inb at_ free_c0_Held.length)
 (some ((decide ((getAt ByteArray.empty free_c0_Held at_.toNat).toList = ByteArray.empty.toList), free_c0_Plate, free_c0_Held, free_c0_Bad))) := (opq_eq _).trans (by kernel_rfl)
abbrev b_IndexFunc_int__i_areHeld_1.s : Sig := ⟨121, [.one, .clo 120 1], [.val, .pbox 26], [.one (.row 3 (.int .i64)), .agg [.row 9 .str, .row 9 .str, .row 4 .bool]], [.one (.int .i64)], [.box 26 [.row 9 .str, .row 9 .str, .row 4 .bool]], [(0, [(0,false),(1,false),(7,false),(8,false)])]⟩
noncomputable def b_IndexFunc_int__i_areHeld_1.C (k : Nat) : List (Nat × Ctr) := [(120, i_areHeld_1.s.ctr (fun x => i_areHeld_1.f k x.1 x.2.1 x.2.2.1 x.2.2.2))]
noncomputable def b_IndexFunc_int__i_areHeld_1.f (k : Nat) (s : List Int) (f_c0_Plate : List ByteArray) (f_c0_Held : List ByteArray) (f_c0_Bad : List Bool) : Option (Int × (List ByteArray × List ByteArray × List Bool)) := opq (b_IndexFunc_int__i_areHeld_1.s.run Try.prog (b_IndexFunc_int__i_areHeld_1.C k) k (s, (f_c0_Plate, f_c0_Held, f_c0_Bad)))
theorem b_IndexFunc_int__i_areHeld_1.ok (k : Nat) : CtrOk Try.prog 121 (b_IndexFunc_int__i_areHeld_1.s.ctr (fun x => b_IndexFunc_int__i_areHeld_1.f k x.1 x.2.1 x.2.2.1 x.2.2.2)) := sig_ok b_IndexFunc_int__i_areHeld_1.s (.cons (i_areHeld_1.ok k) .nil) (by kernel_rfl) fun _ => opq_eq _
noncomputable def b_IndexFunc_int__i_areHeld_1.l0 (k : Nat) (m : Nat) (s0 : List Int) (t7 : Int) (t8 : Int) (h1 : List ByteArray) (h1_ : List ByteArray) (h1__ : List Bool) : Option (Int × (List ByteArray × List ByteArray × List Bool)) := b_IndexFunc_int__i_areHeld_1.s.head Try.prog (b_IndexFunc_int__i_areHeld_1.C k) k 2 0 [] m [(0, AV.row 3 (Kind.int IntKind.i64) s0), (1, AV.clo 120 [AV.ptr 1 0 0]), (7, AV.int IntKind.i64 t7), (8, AV.int IntKind.i64 t8)] [Root.dead, Root.box 26 [AV.row 9 Kind.str h1, AV.row 9 Kind.str h1_, AV.row 4 Kind.bool h1__]]
theorem b_IndexFunc_int__i_areHeld_1.l0_z (k : Nat) (s0 : List Int) (t7 : Int) (t8 : Int) (h1 : List ByteArray) (h1_ : List ByteArray) (h1__ : List Bool) : b_IndexFunc_int__i_areHeld_1.l0 k 0 s0 t7 t8 h1 h1_ h1__ = none := by kernel_rfl
theorem b_IndexFunc_int__i_areHeld_1.l0_s (k : Nat) (m : Nat) (s0 : List Int) (t7 : Int) (t8 : Int) (h1 : List ByteArray) (h1_ : List ByteArray) (h1__ : List Bool) : b_IndexFunc_int__i_areHeld_1.l0 k (m + 1) s0 t7 t8 h1 h1_ h1__ =
 cn (decide (t8 < t7))
 (gd (inb t8 s0.length)
  ((i_areHeld_1.f k (getAt (0 : Int) s0 t8.toNat) h1 h1_ h1__).bind fun d0 =>
   cn d0.fst
   (some ((t8, d0.snd.fst, d0.snd.snd.fst, d0.snd.snd.snd)))
   (b_IndexFunc_int__i_areHeld_1.l0 k m s0 t7 (IntKind.i64.wrap (t8 + (1 : Int))) d0.snd.fst d0.snd.snd.fst d0.snd.snd.snd)))
 (some (((-1 : Int), h1, h1_, h1__))) := by kernel_rfl
theorem b_IndexFunc_int__i_areHeld_1.f_eq (k : Nat) (s : List Int) (f_c0_Plate : List ByteArray) (f_c0_Held : List ByteArray) (f_c0_Bad : List Bool) : b_IndexFunc_int__i_areHeld_1.f k s f_c0_Plate f_c0_Held f_c0_Bad =
 b_IndexFunc_int__i_areHeld_1.l0 k k s ((↑s.length : Int)) ((0 : Int)) f_c0_Plate f_c0_Held f_c0_Bad := (opq_eq _).trans (by kernel_rfl)
abbrev b_ContainsFunc_int__i_areHeld_1.s : Sig := ⟨94, [.one, .clo 120 1], [.val, .pbox 26], [.one (.row 3 (.int .i64)), .agg [.row 9 .str, .row 9 .str, .row 4 .bool]], [.one .bool], [.box 26 [.row 9 .str, .row 9 .str, .row 4 .bool]], []⟩
noncomputable def b_ContainsFunc_int__i_areHeld_1.C (k : Nat) : List (Nat × Ctr) := [(121, b_IndexFunc_int__i_areHeld_1.s.ctr (fun x => b_IndexFunc_int__i_areHeld_1.f k x.1 x.2.1 x.2.2.1 x.2.2.2))]
noncomputable def b_ContainsFunc_int__i_areHeld_1.f (k : Nat) (s : List Int) (f_c0_Plate : List ByteArray) (f_c0_Held : List ByteArray) (f_c0_Bad : List Bool) : Option (Bool × (List ByteArray × List ByteArray × List Bool)) := opq (b_ContainsFunc_int__i_areHeld_1.s.run Try.prog (b_ContainsFunc_int__i_areHeld_1.C k) k (s, (f_c0_Plate, f_c0_Held, f_c0_Bad)))
theorem b_ContainsFunc_int__i_areHeld_1.ok (k : Nat) : CtrOk Try.prog 94 (b_ContainsFunc_int__i_areHeld_1.s.ctr (fun x => b_ContainsFunc_int__i_areHeld_1.f k x.1 x.2.1 x.2.2.1 x.2.2.2)) := sig_ok b_ContainsFunc_int__i_areHeld_1.s (.cons (b_IndexFunc_int__i_areHeld_1.ok k) .nil) (by kernel_rfl) fun _ => opq_eq _
theorem b_ContainsFunc_int__i_areHeld_1.f_eq (k : Nat) (s : List Int) (f_c0_Plate : List ByteArray) (f_c0_Held : List ByteArray) (f_c0_Bad : List Bool) : b_ContainsFunc_int__i_areHeld_1.f k s f_c0_Plate f_c0_Held f_c0_Bad =
 (b_IndexFunc_int__i_areHeld_1.f k s f_c0_Plate f_c0_Held f_c0_Bad).bind fun d0 =>
 some ((decide ((0 : Int) ≤ d0.fst), d0.snd.fst, d0.snd.snd.fst, d0.snd.snd.snd)) := (opq_eq _).trans (by kernel_rfl)
abbrev i_areHeld.s : Sig := ⟨89, [], [.val, .val], [.agg [.row 9 .str, .row 9 .str, .row 4 .bool], .one (.row 3 (.int .i64))], [.one .bool], [], []⟩
noncomputable def i_areHeld.C (k : Nat) : List (Nat × Ctr) := [(119, i_isRising.s.ctr (fun x => i_isRising.f k x.1 x.2)), (94, b_ContainsFunc_int__i_areHeld_1.s.ctr (fun x => b_ContainsFunc_int__i_areHeld_1.f k x.1 x.2.1 x.2.2.1 x.2.2.2))]
noncomputable def i_areHeld.f (k : Nat) (d_Plate : List ByteArray) (d_Held : List ByteArray) (d_Bad : List Bool) (kept : List Int) : Option Bool := opq (i_areHeld.s.run Try.prog (i_areHeld.C k) k ((d_Plate, d_Held, d_Bad), kept))
theorem i_areHeld.ok (k : Nat) : CtrOk Try.prog 89 (i_areHeld.s.ctr (fun x => i_areHeld.f k x.1.1 x.1.2.1 x.1.2.2 x.2)) := sig_ok i_areHeld.s (.cons (i_isRising.ok k) (.cons (b_ContainsFunc_int__i_areHeld_1.ok k) .nil)) (by kernel_rfl) fun _ => opq_eq _
theorem i_areHeld.f_eq (k : Nat) (d_Plate : List ByteArray) (d_Held : List ByteArray) (d_Bad : List Bool) (kept : List Int) : i_areHeld.f k d_Plate d_Held d_Bad kept =
 (i_isRising.f k kept (↑d_Plate.length : Int)).bind fun d0 =>
 cn d0
 ((b_ContainsFunc_int__i_areHeld_1.f k kept d_Plate d_Held d_Bad).bind fun d1 =>
  some (!d1.fst))
 (some false) := (opq_eq _).trans (by kernel_rfl)
abbrev i_journalStep.s : Sig := ⟨38, [], [.val, .val], [.agg [.row 9 .str, .row 9 .str, .row 4 .bool, .int .i64, .int .i64, .row 3 (.int .i64), .row 3 (.int .i64)], .agg [.int .i64, .row 3 (.int .i64), .row 3 (.int .i64)]], [.agg [.own 9 .str, .own 9 .str, .own 4 .bool, .int .i64, .int .i64, .own 3 (.int .i64), .own 3 (.int .i64)], .one .bool], [], []⟩
noncomputable def i_journalStep.C (k : Nat) : List (Nat × Ctr) := [(13, i_RecoverFrom.s.ctr (fun x => i_RecoverFrom.f k x.1 x.2.1 x.2.2)), (45, i_isState.s.ctr (fun x => i_isState.f k x)), (46, i_crashed.s.ctr (fun x => i_crashed.f k x.1.1 x.1.2.1 x.1.2.2 x.2)), (68, i_sectorsOf.s.ctr (fun x => i_sectorsOf.f k x.1 x.2)), (69, i_rootOf.s.ctr (fun x => i_rootOf.f k x)), (86, i_ownJournal.s.ctr (fun x => i_ownJournal.f k x.1 x.2.1 x.2.2.1 x.2.2.2.1 x.2.2.2.2.1 x.2.2.2.2.2.1 x.2.2.2.2.2.2)), (87, b_Clone_int.s.ctr (fun x => b_Clone_int.f k x)), (88, i_heldIn.s.ctr (fun x => i_heldIn.f k x.1 x.2.1 x.2.2)), (89, i_areHeld.s.ctr (fun x => i_areHeld.f k x.1.1 x.1.2.1 x.1.2.2 x.2)), (9, i_GoodJournal.s.ctr (fun x => i_GoodJournal.f k x.1 x.2.1 x.2.2.1 x.2.2.2.1 x.2.2.2.2.1 x.2.2.2.2.2.1 x.2.2.2.2.2.2))]
noncomputable def i_journalStep.f (k : Nat) (j_Disk_Plate : List ByteArray) (j_Disk_Held : List ByteArray) (j_Disk_Bad : List Bool) (j_Epoch : Int) (j_Phase : Int) (j_Acked : List Int) (j_Coming : List Int) (x_Kind : Int) (x_Values : List Int) (x_Kept : List Int) : Option ((List ByteArray × List ByteArray × List Bool × Int × Int × List Int × List Int) × Bool) := opq (i_journalStep.s.run Try.prog (i_journalStep.C k) k ((j_Disk_Plate, j_Disk_Held, j_Disk_Bad, j_Epoch, j_Phase, j_Acked, j_Coming), (x_Kind, x_Values, x_Kept)))
theorem i_journalStep.ok (k : Nat) : CtrOk Try.prog 38 (i_journalStep.s.ctr (fun x => i_journalStep.f k x.1.1 x.1.2.1 x.1.2.2.1 x.1.2.2.2.1 x.1.2.2.2.2.1 x.1.2.2.2.2.2.1 x.1.2.2.2.2.2.2 x.2.1 x.2.2.1 x.2.2.2)) := sig_ok i_journalStep.s (.cons (i_RecoverFrom.ok k) (.cons (i_isState.ok k) (.cons (i_crashed.ok k) (.cons (i_sectorsOf.ok k) (.cons (i_rootOf.ok k) (.cons (i_ownJournal.ok k) (.cons (b_Clone_int.ok k) (.cons (i_heldIn.ok k) (.cons (i_areHeld.ok k) (.cons (i_GoodJournal.ok k) .nil)))))))))) (by kernel_rfl) fun _ => opq_eq _
theorem i_journalStep.f_eq (k : Nat) (j_Disk_Plate : List ByteArray) (j_Disk_Held : List ByteArray) (j_Disk_Bad : List Bool) (j_Epoch : Int) (j_Phase : Int) (j_Acked : List Int) (j_Coming : List Int) (x_Kind : Int) (x_Values : List Int) (x_Kept : List Int) : i_journalStep.f k j_Disk_Plate j_Disk_Held j_Disk_Bad j_Epoch j_Phase j_Acked j_Coming x_Kind x_Values x_Kept =

 let z3 : Option ((List ByteArray × List ByteArray × List Bool × Int × Int × List Int × List Int) × Bool) := (i_ownJournal.f k j_Disk_Plate j_Disk_Held j_Disk_Bad j_Epoch j_Phase j_Acked j_Coming).bind fun d0 => cn (decide (x_Kind = (1 : Int))) (cn (!decide (j_Phase = (0 : Int))) (some ((([], [], [], (0 : Int) , (0 : Int) , [], []) , false))) (cn (decide ((60000 : Int) ≤ j_Epoch)) (some ((([], [], [], (0 : Int) , (0 : Int) , [], []) , false))) ((i_isState.f k x_Values).bind fun d1 => cn (!d1) (some ((([], [], [], (0 : Int) , (0 : Int) , [], []) , false))) ((i_sectorsOf.f k (IntKind.i64.wrap (j_Epoch + (1 : Int))) x_Values).bind fun d2 => gd (decide ((0 : Int) ≤ d2.snd) && decide (d2.snd ≤ (↑d0.snd.fst.length : Int))) ((b_Clone_int.f k x_Values).bind fun d3 => (i_GoodJournal.f k d0.fst (copyL d0.snd.fst ((0 : Nat) + Int.toNat d2.snd) (d0.snd.fst.length - Int.toNat d2.snd) d2.fst) d0.snd.snd.fst d0.snd.snd.snd.fst (1 : Int) d0.snd.snd.snd.snd.snd.fst d3).bind fun d4 => some (((d0.fst, copyL d0.snd.fst ((0 : Nat) + Int.toNat d2.snd) (d0.snd.fst.length - Int.toNat d2.snd) d2.fst, d0.snd.snd.fst, d0.snd.snd.snd.fst, (1 : Int) , d0.snd.snd.snd.snd.snd.fst, d3) , d4))))))) (cn (decide (x_Kind = (2 : Int))) ((i_heldIn.f k j_Disk_Plate j_Disk_Held j_Disk_Bad).bind fun d1 => (i_crashed.f k j_Disk_Plate j_Disk_Held j_Disk_Bad d1).bind fun d2 => cn (decide (j_Phase = (1 : Int))) ((i_GoodJournal.f k d2.fst d2.snd.fst d2.snd.snd d0.snd.snd.snd.fst (2 : Int) d0.snd.snd.snd.snd.snd.fst d0.snd.snd.snd.snd.snd.snd).bind fun d3 => some (((d2.fst, d2.snd.fst, d2.snd.snd, d0.snd.snd.snd.fst, (2 : Int) , d0.snd.snd.snd.snd.snd.fst, d0.snd.snd.snd.snd.snd.snd) , d3))) (cn (decide (j_Phase = (3 : Int))) ((i_GoodJournal.f k d2.fst d2.snd.fst d2.snd.snd (IntKind.i64.wrap (d0.snd.snd.snd.fst + (1 : Int))) (0 : Int) d0.snd.snd.snd.snd.snd.snd []).bind fun d3 => some (((d2.fst, d2.snd.fst, d2.snd.snd, IntKind.i64.wrap (d0.snd.snd.snd.fst + (1 : Int)) , (0 : Int) , d0.snd.snd.snd.snd.snd.snd, []) , d3))) ((i_GoodJournal.f k d2.fst d2.snd.fst d2.snd.snd d0.snd.snd.snd.fst d0.snd.snd.snd.snd.fst d0.snd.snd.snd.snd.snd.fst d0.snd.snd.snd.snd.snd.snd).bind fun d3 => some (((d2.fst, d2.snd.fst, d2.snd.snd, d0.snd.snd.snd.fst, d0.snd.snd.snd.snd.fst, d0.snd.snd.snd.snd.snd.fst, d0.snd.snd.snd.snd.snd.snd) , d3))))) (cn (decide (x_Kind = (3 : Int))) (cn (!decide (j_Phase = (2 : Int))) (some ((([], [], [], (0 : Int) , (0 : Int) , [], []) , false))) (cn (decide ((60000 : Int) ≤ j_Epoch)) (some ((([], [], [], (0 : Int) , (0 : Int) , [], []) , false))) ((i_rootOf.f k (IntKind.i64.wrap (j_Epoch + (1 : Int)))).bind fun d1 => gd (inb (0 : Int) d0.snd.fst.length) ((i_GoodJournal.f k d0.fst (d0.snd.fst.set (0 : Nat) d1) d0.snd.snd.fst d0.snd.snd.snd.fst (3 : Int) d0.snd.snd.snd.snd.snd.fst d0.snd.snd.snd.snd.snd.snd).bind fun d2 => some (((d0.fst, d0.snd.fst.set (0 : Nat) d1, d0.snd.snd.fst, d0.snd.snd.snd.fst, (3 : Int) , d0.snd.snd.snd.snd.snd.fst, d0.snd.snd.snd.snd.snd.snd) , d2)))))) (cn (decide (x_Kind = (4 : Int))) ((i_areHeld.f k j_Disk_Plate j_Disk_Held j_Disk_Bad x_Kept).bind fun d1 => cn (!d1) (some ((([], [], [], (0 : Int) , (0 : Int) , [], []) , false))) ((i_crashed.f k j_Disk_Plate j_Disk_Held j_Disk_Bad x_Kept).bind fun d2 => (i_RecoverFrom.f k d2.fst d2.snd.fst d2.snd.snd).bind fun d3 => cn (!d3.snd.snd) (some ((([], [], [], (0 : Int) , (0 : Int) , [], []) , false))) ((i_GoodJournal.f k d2.fst d2.snd.fst d2.snd.snd d3.snd.fst (0 : Int) d3.fst []).bind fun d4 => some (((d2.fst, d2.snd.fst, d2.snd.snd, d3.snd.fst, (0 : Int) , d3.fst, []) , d4))))) (some ((([], [], [], (0 : Int) , (0 : Int) , [], []) , false))))));
 let z4 : Option ((List ByteArray × List ByteArray × List Bool × Int × Int × List Int × List Int) × Bool) := cn (decide ((0 : Int) < (↑x_Kept.length : Int))) (some ((([], [], [], (0 : Int) , (0 : Int) , [], []) , false))) z3;
 cn (!decide (x_Kind = (1 : Int))) (cn (decide ((0 : Int) < (↑x_Values.length : Int))) (some ((([], [], [], (0 : Int) , (0 : Int) , [], []) , false))) (cn (!decide (x_Kind = (4 : Int))) z4 z3)) (cn (!decide (x_Kind = (4 : Int))) z4 z3) := (opq_eq _).trans (by kernel_rfl)
abbrev i_StepJournal.s : Sig := ⟨6, [], [.val, .val], [.agg [.row 9 .str, .row 9 .str, .row 4 .bool, .int .i64, .int .i64, .row 3 (.int .i64), .row 3 (.int .i64)], .agg [.int .i64, .row 3 (.int .i64), .row 3 (.int .i64)]], [.agg [.own 9 .str, .own 9 .str, .own 4 .bool, .int .i64, .int .i64, .own 3 (.int .i64), .own 3 (.int .i64)], .one .bool], [], []⟩
noncomputable def i_StepJournal.C (k : Nat) : List (Nat × Ctr) := [(38, i_journalStep.s.ctr (fun x => i_journalStep.f k x.1.1 x.1.2.1 x.1.2.2.1 x.1.2.2.2.1 x.1.2.2.2.2.1 x.1.2.2.2.2.2.1 x.1.2.2.2.2.2.2 x.2.1 x.2.2.1 x.2.2.2)), (9, i_GoodJournal.s.ctr (fun x => i_GoodJournal.f k x.1 x.2.1 x.2.2.1 x.2.2.2.1 x.2.2.2.2.1 x.2.2.2.2.2.1 x.2.2.2.2.2.2))]
noncomputable def i_StepJournal.f (k : Nat) (j_Disk_Plate : List ByteArray) (j_Disk_Held : List ByteArray) (j_Disk_Bad : List Bool) (j_Epoch : Int) (j_Phase : Int) (j_Acked : List Int) (j_Coming : List Int) (x_Kind : Int) (x_Values : List Int) (x_Kept : List Int) : Option ((List ByteArray × List ByteArray × List Bool × Int × Int × List Int × List Int) × Bool) := opq (i_StepJournal.s.run Try.prog (i_StepJournal.C k) k ((j_Disk_Plate, j_Disk_Held, j_Disk_Bad, j_Epoch, j_Phase, j_Acked, j_Coming), (x_Kind, x_Values, x_Kept)))
theorem i_StepJournal.ok (k : Nat) : CtrOk Try.prog 6 (i_StepJournal.s.ctr (fun x => i_StepJournal.f k x.1.1 x.1.2.1 x.1.2.2.1 x.1.2.2.2.1 x.1.2.2.2.2.1 x.1.2.2.2.2.2.1 x.1.2.2.2.2.2.2 x.2.1 x.2.2.1 x.2.2.2)) := sig_ok i_StepJournal.s (.cons (i_journalStep.ok k) (.cons (i_GoodJournal.ok k) .nil)) (by kernel_rfl) fun _ => opq_eq _
theorem i_StepJournal.f_eq (k : Nat) (j_Disk_Plate : List ByteArray) (j_Disk_Held : List ByteArray) (j_Disk_Bad : List Bool) (j_Epoch : Int) (j_Phase : Int) (j_Acked : List Int) (j_Coming : List Int) (x_Kind : Int) (x_Values : List Int) (x_Kept : List Int) : i_StepJournal.f k j_Disk_Plate j_Disk_Held j_Disk_Bad j_Epoch j_Phase j_Acked j_Coming x_Kind x_Values x_Kept =
 (i_GoodJournal.f k j_Disk_Plate j_Disk_Held j_Disk_Bad j_Epoch j_Phase j_Acked j_Coming).bind fun d0 =>
 cn (!d0)
 (some ((([], [], [], (0 : Int), (0 : Int), [], []), false)))
 ((i_journalStep.f k j_Disk_Plate j_Disk_Held j_Disk_Bad j_Epoch j_Phase j_Acked j_Coming x_Kind x_Values x_Kept).bind fun d1 =>
  cn (!d1.snd)
  (some ((([], [], [], (0 : Int), (0 : Int), [], []), false)))
  (some (((d1.fst.fst, d1.fst.snd.fst, d1.fst.snd.snd.fst, d1.fst.snd.snd.snd.fst, d1.fst.snd.snd.snd.snd.fst, d1.fst.snd.snd.snd.snd.snd.fst, d1.fst.snd.snd.snd.snd.snd.snd), true)))) := (opq_eq _).trans (by kernel_rfl)
abbrev s_GoodDisk.s : Sig := ⟨48, [], [.val], [.agg [.row 9 .str, .row 9 .str, .row 4 .bool]], [.one .bool], [], [(0, [(1,false),(27,false),(28,false)])]⟩
noncomputable def s_GoodDisk.C (k : Nat) : List (Nat × Ctr) := [(50, s_l1In.s.ctr (fun x => s_l1In.f k x.1 x.2.1 x.2.2))]
noncomputable def s_GoodDisk.f (k : Nat) (d_Plate : List ByteArray) (d_Held : List ByteArray) (d_Bad : List Bool) : Option Bool := opq (s_GoodDisk.s.run Try.prog (s_GoodDisk.C k) k (d_Plate, d_Held, d_Bad))
theorem s_GoodDisk.ok (k : Nat) : CtrOk Try.prog 48 (s_GoodDisk.s.ctr (fun x => s_GoodDisk.f k x.1 x.2.1 x.2.2)) := sig_ok s_GoodDisk.s (.cons (s_l1In.ok k) .nil) (by kernel_rfl) fun _ => opq_eq _
noncomputable def s_GoodDisk.l0 (k : Nat) (m : Nat) (t27 : Int) (t28 : Int) (h1 : List ByteArray) (h1_ : List ByteArray) (h1__ : List Bool) : Option Bool := s_GoodDisk.s.head Try.prog (s_GoodDisk.C k) k 1 0 [] m [(1, AV.ptr 1 0 0), (27, AV.int IntKind.i64 t27), (28, AV.int IntKind.i64 t28)] [Root.dead, Root.box 26 [AV.row 9 Kind.str h1, AV.row 9 Kind.str h1_, AV.row 4 Kind.bool h1__]]
theorem s_GoodDisk.l0_z (k : Nat) (t27 : Int) (t28 : Int) (h1 : List ByteArray) (h1_ : List ByteArray) (h1__ : List Bool) : s_GoodDisk.l0 k 0 t27 t28 h1 h1_ h1__ = none := by kernel_rfl
theorem s_GoodDisk.l0_s (k : Nat) (m : Nat) (t27 : Int) (t28 : Int) (h1 : List ByteArray) (h1_ : List ByteArray) (h1__ : List Bool) : s_GoodDisk.l0 k (m + 1) t27 t28 h1 h1_ h1__ =
 cn (decide (t28 < t27))
 (gd (inb t28 h1.length)
  (cn (decide ((28 : Int) < (↑(getAt ByteArray.empty h1 t28.toNat).size : Int)))
   (some false)
   (gd (inb t28 h1_.length)
    (cn (decide ((28 : Int) < (↑(getAt ByteArray.empty h1_ t28.toNat).size : Int)))
     (some false)
     (gd (inb t28 h1__.length)
      (cn (getAt false h1__ t28.toNat)
       (gd (inb t28 h1_.length)
        (cn (!decide ((getAt ByteArray.empty h1_ t28.toNat).toList = ByteArray.empty.toList))
         (some false)
         (s_GoodDisk.l0 k m t27 (IntKind.i64.wrap (t28 + (1 : Int))) h1 h1_ h1__)))
       (s_GoodDisk.l0 k m t27 (IntKind.i64.wrap (t28 + (1 : Int))) h1 h1_ h1__)))))))
 (some true) := by kernel_rfl
theorem s_GoodDisk.f_eq (k : Nat) (d_Plate : List ByteArray) (d_Held : List ByteArray) (d_Bad : List Bool) : s_GoodDisk.f k d_Plate d_Held d_Bad =
 (s_l1In.f k (↑d_Plate.length : Int) (1 : Int) (24 : Int)).bind fun d0 =>
 cn (!d0)
 (some false)
 (cn (!decide ((↑d_Held.length : Int) = (↑d_Plate.length : Int)))
  (some false)
  (cn (!decide ((↑d_Bad.length : Int) = (↑d_Plate.length : Int)))
   (some false)
   (s_GoodDisk.l0 k k ((↑d_Plate.length : Int)) ((0 : Int)) d_Plate d_Held d_Bad))) := (opq_eq _).trans (by kernel_rfl)
abbrev s_l1Same.s : Sig := ⟨54, [], [.val, .val], [.one (.row 3 (.int .i64)), .one (.row 3 (.int .i64))], [.one .bool], [], [(0, [(0,false),(1,false),(12,false),(13,false)])]⟩
noncomputable def s_l1Same.C (k : Nat) : List (Nat × Ctr) := []
noncomputable def s_l1Same.f (k : Nat) (a : List Int) (b : List Int) : Option Bool := opq (s_l1Same.s.run Try.prog (s_l1Same.C k) k (a, b))
theorem s_l1Same.ok (k : Nat) : CtrOk Try.prog 54 (s_l1Same.s.ctr (fun x => s_l1Same.f k x.1 x.2)) := sig_ok s_l1Same.s .nil (by kernel_rfl) fun _ => opq_eq _
noncomputable def s_l1Same.l0 (k : Nat) (m : Nat) (a0 : List Int) (b1 : List Int) (t12 : Int) (t13 : Int) : Option Bool := s_l1Same.s.head Try.prog (s_l1Same.C k) k 1 0 [] m [(0, AV.row 3 (Kind.int IntKind.i64) a0), (1, AV.row 3 (Kind.int IntKind.i64) b1), (12, AV.int IntKind.i64 t12), (13, AV.int IntKind.i64 t13)] [Root.dead]
theorem s_l1Same.l0_z (k : Nat) (a0 : List Int) (b1 : List Int) (t12 : Int) (t13 : Int) : s_l1Same.l0 k 0 a0 b1 t12 t13 = none := by kernel_rfl
theorem s_l1Same.l0_s (k : Nat) (m : Nat) (a0 : List Int) (b1 : List Int) (t12 : Int) (t13 : Int) : s_l1Same.l0 k (m + 1) a0 b1 t12 t13 =
 cn (decide (t13 < t12))
 (gd (inb t13 a0.length)
  (gd (inb t13 b1.length)
   (cn (!decide (getAt (0 : Int) a0 t13.toNat = getAt (0 : Int) b1 t13.toNat))
    (some false)
    (s_l1Same.l0 k m a0 b1 t12 (IntKind.i64.wrap (t13 + (1 : Int)))))))
 (some true) := by kernel_rfl
theorem s_l1Same.f_eq (k : Nat) (a : List Int) (b : List Int) : s_l1Same.f k a b =
 cn (!decide ((↑a.length : Int) = (↑b.length : Int)))
 (some false)
 (s_l1Same.l0 k k a b ((↑a.length : Int)) ((0 : Int))) := (opq_eq _).trans (by kernel_rfl)
abbrev s_GoodJournal.s : Sig := ⟨10, [], [.val], [.agg [.row 9 .str, .row 9 .str, .row 4 .bool, .int .i64, .int .i64, .row 3 (.int .i64), .row 3 (.int .i64)]], [.one .bool], [], [(0, [(1,false),(54,true),(55,false),(56,false)])]⟩
noncomputable def s_GoodJournal.C (k : Nat) : List (Nat × Ctr) := [(48, s_GoodDisk.s.ctr (fun x => s_GoodDisk.f k x.1 x.2.1 x.2.2)), (49, s_l15State.s.ctr (fun x => s_l15State.f k x)), (50, s_l1In.s.ctr (fun x => s_l1In.f k x.1 x.2.1 x.2.2)), (51, s_l15Recover.s.ctr (fun x => s_l15Recover.f k x.1 x.2.1 x.2.2)), (52, s_l7Crash.s.ctr (fun x => s_l7Crash.f k x.1 x.2.1 x.2.2.1 x.2.2.2)), (53, s_l7Own.s.ctr (fun x => s_l7Own.f k x.1 x.2.1 x.2.2)), (54, s_l1Same.s.ctr (fun x => s_l1Same.f k x.1 x.2))]
noncomputable def s_GoodJournal.f (k : Nat) (j_Disk_Plate : List ByteArray) (j_Disk_Held : List ByteArray) (j_Disk_Bad : List Bool) (j_Epoch : Int) (j_Phase : Int) (j_Acked : List Int) (j_Coming : List Int) : Option Bool := opq (s_GoodJournal.s.run Try.prog (s_GoodJournal.C k) k (j_Disk_Plate, j_Disk_Held, j_Disk_Bad, j_Epoch, j_Phase, j_Acked, j_Coming))
theorem s_GoodJournal.ok (k : Nat) : CtrOk Try.prog 10 (s_GoodJournal.s.ctr (fun x => s_GoodJournal.f k x.1 x.2.1 x.2.2.1 x.2.2.2.1 x.2.2.2.2.1 x.2.2.2.2.2.1 x.2.2.2.2.2.2)) := sig_ok s_GoodJournal.s (.cons (s_GoodDisk.ok k) (.cons (s_l15State.ok k) (.cons (s_l1In.ok k) (.cons (s_l15Recover.ok k) (.cons (s_l7Crash.ok k) (.cons (s_l7Own.ok k) (.cons (s_l1Same.ok k) .nil))))))) (by kernel_rfl) fun _ => opq_eq _
noncomputable def s_GoodJournal.l0 (k : Nat) (m : Nat) (t54 : List Bool) (t55 : Int) (t56 : Int) (h1 : List ByteArray) (h1_ : List ByteArray) (h1__ : List Bool) (h1___ : Int) (h1____ : Int) (h1_____ : List Int) (h1______ : List Int) : Option Bool := s_GoodJournal.s.head Try.prog (s_GoodJournal.C k) k 1 0 [] m [(1, AV.ptr 1 0 0), (54, AV.row 4 Kind.bool t54), (55, AV.int IntKind.i64 t55), (56, AV.int IntKind.i64 t56)] [Root.dead, Root.box 29 [AV.row 9 Kind.str h1, AV.row 9 Kind.str h1_, AV.row 4 Kind.bool h1__, AV.int IntKind.i64 h1___, AV.int IntKind.i64 h1____, AV.row 3 (Kind.int IntKind.i64) h1_____, AV.row 3 (Kind.int IntKind.i64) h1______]]
theorem s_GoodJournal.l0_z (k : Nat) (t54 : List Bool) (t55 : Int) (t56 : Int) (h1 : List ByteArray) (h1_ : List ByteArray) (h1__ : List Bool) (h1___ : Int) (h1____ : Int) (h1_____ : List Int) (h1______ : List Int) : s_GoodJournal.l0 k 0 t54 t55 t56 h1 h1_ h1__ h1___ h1____ h1_____ h1______ = none := by kernel_rfl
theorem s_GoodJournal.l0_s (k : Nat) (m : Nat) (t54 : List Bool) (t55 : Int) (t56 : Int) (h1 : List ByteArray) (h1_ : List ByteArray) (h1__ : List Bool) (h1___ : Int) (h1____ : Int) (h1_____ : List Int) (h1______ : List Int) : s_GoodJournal.l0 k (m + 1) t54 t55 t56 h1 h1_ h1__ h1___ h1____ h1_____ h1______ =
 cn (decide (t56 < t55))
 (gd (inb t56 t54.length)
  (cn (getAt false t54 t56.toNat)
   (some false)
   (s_GoodJournal.l0 k m t54 t55 (IntKind.i64.wrap (t56 + (1 : Int))) h1 h1_ h1__ h1___ h1____ h1_____ h1______)))
 ((s_l7Own.f k h1 h1_ h1__).bind fun d1 =>
  (s_l7Crash.f k d1.fst d1.snd.fst d1.snd.snd []).bind fun d2 =>
  (s_l15Recover.f k d2.snd.fst d2.snd.snd.fst d2.snd.snd.snd).bind fun d3 =>
  cn (decide (d3.snd = h1___))
  (cn (decide ((0 : Int) ≤ d3.snd))
   ((s_l1Same.f k d3.fst h1_____).bind fun d4 =>
    some d4)
   (some false))
  (some false)) := by kernel_rfl
theorem s_GoodJournal.f_eq (k : Nat) (j_Disk_Plate : List ByteArray) (j_Disk_Held : List ByteArray) (j_Disk_Bad : List Bool) (j_Epoch : Int) (j_Phase : Int) (j_Acked : List Int) (j_Coming : List Int) : s_GoodJournal.f k j_Disk_Plate j_Disk_Held j_Disk_Bad j_Epoch j_Phase j_Acked j_Coming =
 (s_GoodDisk.f k j_Disk_Plate j_Disk_Held j_Disk_Bad).bind fun d0 =>
 cn (!d0)
 (some false)
 (cn (!decide ((↑j_Disk_Plate.length : Int) = (5 : Int)))
  (some false)
  ((s_l15State.f k j_Acked).bind fun d1 =>
   cn (!d1)
   (some false)
   ((s_l1In.f k j_Phase (0 : Int) (3 : Int)).bind fun d2 =>
    cn (!d2)
    (some false)
    (cn (decide (j_Phase = (0 : Int)))
     (cn (decide ((0 : Int) < (↑j_Coming.length : Int)))
      (some false)
      (cn (decide ((0 : Int) < j_Phase))
       ((s_l15State.f k j_Coming).bind fun d3 =>
        cn (!d3)
        (some false)
        (s_GoodJournal.l0 k k j_Disk_Bad ((↑j_Disk_Bad.length : Int)) ((0 : Int)) j_Disk_Plate j_Disk_Held j_Disk_Bad j_Epoch j_Phase j_Acked j_Coming))
       (s_GoodJournal.l0 k k j_Disk_Bad ((↑j_Disk_Bad.length : Int)) ((0 : Int)) j_Disk_Plate j_Disk_Held j_Disk_Bad j_Epoch j_Phase j_Acked j_Coming)))
     (cn (decide ((0 : Int) < j_Phase))
      ((s_l15State.f k j_Coming).bind fun d3 =>
       cn (!d3)
       (some false)
       (s_GoodJournal.l0 k k j_Disk_Bad ((↑j_Disk_Bad.length : Int)) ((0 : Int)) j_Disk_Plate j_Disk_Held j_Disk_Bad j_Epoch j_Phase j_Acked j_Coming))
      (s_GoodJournal.l0 k k j_Disk_Bad ((↑j_Disk_Bad.length : Int)) ((0 : Int)) j_Disk_Plate j_Disk_Held j_Disk_Bad j_Epoch j_Phase j_Acked j_Coming)))))) := (opq_eq _).trans (by kernel_rfl)
abbrev s_StepJournal.s : Sig := ⟨7, [], [.val, .val], [.agg [.row 9 .str, .row 9 .str, .row 4 .bool, .int .i64, .int .i64, .row 3 (.int .i64), .row 3 (.int .i64)], .agg [.int .i64, .row 3 (.int .i64), .row 3 (.int .i64)]], [.agg [.own 9 .str, .own 9 .str, .own 4 .bool, .int .i64, .int .i64, .own 3 (.int .i64), .own 3 (.int .i64)], .one .bool], [], []⟩
noncomputable def s_StepJournal.C (k : Nat) : List (Nat × Ctr) := [(10, s_GoodJournal.s.ctr (fun x => s_GoodJournal.f k x.1 x.2.1 x.2.2.1 x.2.2.2.1 x.2.2.2.2.1 x.2.2.2.2.2.1 x.2.2.2.2.2.2)), (39, s_l15Step.s.ctr (fun x => s_l15Step.f k x.1 x.2.1 x.2.2.1 x.2.2.2.1 x.2.2.2.2.1 x.2.2.2.2.2.1 x.2.2.2.2.2.2.1 x.2.2.2.2.2.2.2.1 x.2.2.2.2.2.2.2.2.1 x.2.2.2.2.2.2.2.2.2)), (40, s_l15Own.s.ctr (fun x => s_l15Own.f k x.1 x.2.1 x.2.2.1 x.2.2.2.1 x.2.2.2.2.1 x.2.2.2.2.2.1 x.2.2.2.2.2.2))]
noncomputable def s_StepJournal.f (k : Nat) (j_Disk_Plate : List ByteArray) (j_Disk_Held : List ByteArray) (j_Disk_Bad : List Bool) (j_Epoch : Int) (j_Phase : Int) (j_Acked : List Int) (j_Coming : List Int) (x_Kind : Int) (x_Values : List Int) (x_Kept : List Int) : Option ((List ByteArray × List ByteArray × List Bool × Int × Int × List Int × List Int) × Bool) := opq (s_StepJournal.s.run Try.prog (s_StepJournal.C k) k ((j_Disk_Plate, j_Disk_Held, j_Disk_Bad, j_Epoch, j_Phase, j_Acked, j_Coming), (x_Kind, x_Values, x_Kept)))
theorem s_StepJournal.ok (k : Nat) : CtrOk Try.prog 7 (s_StepJournal.s.ctr (fun x => s_StepJournal.f k x.1.1 x.1.2.1 x.1.2.2.1 x.1.2.2.2.1 x.1.2.2.2.2.1 x.1.2.2.2.2.2.1 x.1.2.2.2.2.2.2 x.2.1 x.2.2.1 x.2.2.2)) := sig_ok s_StepJournal.s (.cons (s_GoodJournal.ok k) (.cons (s_l15Step.ok k) (.cons (s_l15Own.ok k) .nil))) (by kernel_rfl) fun _ => opq_eq _
theorem s_StepJournal.f_eq (k : Nat) (j_Disk_Plate : List ByteArray) (j_Disk_Held : List ByteArray) (j_Disk_Bad : List Bool) (j_Epoch : Int) (j_Phase : Int) (j_Acked : List Int) (j_Coming : List Int) (x_Kind : Int) (x_Values : List Int) (x_Kept : List Int) : s_StepJournal.f k j_Disk_Plate j_Disk_Held j_Disk_Bad j_Epoch j_Phase j_Acked j_Coming x_Kind x_Values x_Kept =
 (s_GoodJournal.f k j_Disk_Plate j_Disk_Held j_Disk_Bad j_Epoch j_Phase j_Acked j_Coming).bind fun d0 =>
 cn (!d0)
 (some ((([], [], [], (0 : Int), (0 : Int), [], []), false)))
 (both
  ((s_l15Own.f k j_Disk_Plate j_Disk_Held j_Disk_Bad j_Epoch j_Phase j_Acked j_Coming).bind fun d1 =>
   dup
   ((s_l15Step.f k d1.fst d1.snd.fst d1.snd.snd.fst d1.snd.snd.snd.fst d1.snd.snd.snd.snd.fst d1.snd.snd.snd.snd.snd.fst d1.snd.snd.snd.snd.snd.snd x_Kind x_Values x_Kept).bind fun d2 =>
    cn (!d2.snd)
    (some ((([], [], [], (0 : Int), (0 : Int), [], []), false)))
    ((s_GoodJournal.f k d2.fst.fst d2.fst.snd.fst d2.fst.snd.snd.fst d2.fst.snd.snd.snd.fst d2.fst.snd.snd.snd.snd.fst d2.fst.snd.snd.snd.snd.snd.fst d2.fst.snd.snd.snd.snd.snd.snd).bind fun d3 =>
     cn (!d3)
     (some ((([], [], [], (0 : Int), (0 : Int), [], []), false)))
     ((s_l15Own.f k d2.fst.fst d2.fst.snd.fst d2.fst.snd.snd.fst d2.fst.snd.snd.snd.fst d2.fst.snd.snd.snd.snd.fst d2.fst.snd.snd.snd.snd.snd.fst d2.fst.snd.snd.snd.snd.snd.snd).bind fun d4 =>
      some (((d4.fst, d4.snd.fst, d4.snd.snd.fst, d4.snd.snd.snd.fst, d4.snd.snd.snd.snd.fst, d4.snd.snd.snd.snd.snd.fst, d4.snd.snd.snd.snd.snd.snd), true))))))
  ((s_l15Own.f k j_Disk_Plate j_Disk_Held j_Disk_Bad j_Epoch j_Phase j_Acked j_Coming).bind fun d1 =>
   (s_l15Step.f k d1.fst d1.snd.fst d1.snd.snd.fst d1.snd.snd.snd.fst d1.snd.snd.snd.snd.fst d1.snd.snd.snd.snd.snd.fst d1.snd.snd.snd.snd.snd.snd x_Kind x_Values x_Kept).bind fun d2 =>
   cn (!d2.snd)
   (some ((([], [], [], (0 : Int), (0 : Int), [], []), false)))
   ((s_GoodJournal.f k d2.fst.fst d2.fst.snd.fst d2.fst.snd.snd.fst d2.fst.snd.snd.snd.fst d2.fst.snd.snd.snd.snd.fst d2.fst.snd.snd.snd.snd.snd.fst d2.fst.snd.snd.snd.snd.snd.snd).bind fun d3 =>
    cn (!d3)
    (some ((([], [], [], (0 : Int), (0 : Int), [], []), false)))
    ((s_l15Own.f k d2.fst.fst d2.fst.snd.fst d2.fst.snd.snd.fst d2.fst.snd.snd.snd.fst d2.fst.snd.snd.snd.snd.fst d2.fst.snd.snd.snd.snd.snd.fst d2.fst.snd.snd.snd.snd.snd.snd).bind fun d4 =>
     some (((d4.fst, d4.snd.fst, d4.snd.snd.fst, d4.snd.snd.snd.fst, d4.snd.snd.snd.snd.fst, d4.snd.snd.snd.snd.snd.fst, d4.snd.snd.snd.snd.snd.snd), true)))))) := (opq_eq _).trans (by kernel_rfl)
abbrev w_sameTexts.s : Sig := ⟨18, [], [.val, .val], [.one (.row 9 .str), .one (.row 9 .str)], [.one .bool], [], [(0, [(0,false),(1,false),(12,false),(13,false)])]⟩
noncomputable def w_sameTexts.C (k : Nat) : List (Nat × Ctr) := []
noncomputable def w_sameTexts.f (k : Nat) (a : List ByteArray) (b : List ByteArray) : Option Bool := opq (w_sameTexts.s.run Try.prog (w_sameTexts.C k) k (a, b))
theorem w_sameTexts.ok (k : Nat) : CtrOk Try.prog 18 (w_sameTexts.s.ctr (fun x => w_sameTexts.f k x.1 x.2)) := sig_ok w_sameTexts.s .nil (by kernel_rfl) fun _ => opq_eq _
noncomputable def w_sameTexts.l0 (k : Nat) (m : Nat) (a0 : List ByteArray) (b1 : List ByteArray) (t12 : Int) (t13 : Int) : Option Bool := w_sameTexts.s.head Try.prog (w_sameTexts.C k) k 1 0 [] m [(0, AV.row 9 Kind.str a0), (1, AV.row 9 Kind.str b1), (12, AV.int IntKind.i64 t12), (13, AV.int IntKind.i64 t13)] [Root.dead]
theorem w_sameTexts.l0_z (k : Nat) (a0 : List ByteArray) (b1 : List ByteArray) (t12 : Int) (t13 : Int) : w_sameTexts.l0 k 0 a0 b1 t12 t13 = none := by kernel_rfl
theorem w_sameTexts.l0_s (k : Nat) (m : Nat) (a0 : List ByteArray) (b1 : List ByteArray) (t12 : Int) (t13 : Int) : w_sameTexts.l0 k (m + 1) a0 b1 t12 t13 =
 cn (decide (t13 < t12))
 (gd (inb t13 a0.length)
  (gd (inb t13 b1.length)
   (cn (!decide ((getAt ByteArray.empty a0 t13.toNat).toList = (getAt ByteArray.empty b1 t13.toNat).toList))
    (some false)
    (w_sameTexts.l0 k m a0 b1 t12 (IntKind.i64.wrap (t13 + (1 : Int)))))))
 (some true) := by kernel_rfl
theorem w_sameTexts.f_eq (k : Nat) (a : List ByteArray) (b : List ByteArray) : w_sameTexts.f k a b =
 cn (!decide ((↑a.length : Int) = (↑b.length : Int)))
 (some false)
 (w_sameTexts.l0 k k a b ((↑a.length : Int)) ((0 : Int))) := (opq_eq _).trans (by kernel_rfl)
abbrev w_sameBools.s : Sig := ⟨92, [], [.val, .val], [.one (.row 4 .bool), .one (.row 4 .bool)], [.one .bool], [], [(0, [(0,false),(1,false),(12,false),(13,false)])]⟩
noncomputable def w_sameBools.C (k : Nat) : List (Nat × Ctr) := []
noncomputable def w_sameBools.f (k : Nat) (a : List Bool) (b : List Bool) : Option Bool := opq (w_sameBools.s.run Try.prog (w_sameBools.C k) k (a, b))
theorem w_sameBools.ok (k : Nat) : CtrOk Try.prog 92 (w_sameBools.s.ctr (fun x => w_sameBools.f k x.1 x.2)) := sig_ok w_sameBools.s .nil (by kernel_rfl) fun _ => opq_eq _
noncomputable def w_sameBools.l0 (k : Nat) (m : Nat) (a0 : List Bool) (b1 : List Bool) (t12 : Int) (t13 : Int) : Option Bool := w_sameBools.s.head Try.prog (w_sameBools.C k) k 1 0 [] m [(0, AV.row 4 Kind.bool a0), (1, AV.row 4 Kind.bool b1), (12, AV.int IntKind.i64 t12), (13, AV.int IntKind.i64 t13)] [Root.dead]
theorem w_sameBools.l0_z (k : Nat) (a0 : List Bool) (b1 : List Bool) (t12 : Int) (t13 : Int) : w_sameBools.l0 k 0 a0 b1 t12 t13 = none := by kernel_rfl
theorem w_sameBools.l0_s (k : Nat) (m : Nat) (a0 : List Bool) (b1 : List Bool) (t12 : Int) (t13 : Int) : w_sameBools.l0 k (m + 1) a0 b1 t12 t13 =
 cn (decide (t13 < t12))
 (gd (inb t13 a0.length)
  (gd (inb t13 b1.length)
   (cn (!getAt false a0 t13.toNat == getAt false b1 t13.toNat)
    (some false)
    (w_sameBools.l0 k m a0 b1 t12 (IntKind.i64.wrap (t13 + (1 : Int)))))))
 (some true) := by kernel_rfl
theorem w_sameBools.f_eq (k : Nat) (a : List Bool) (b : List Bool) : w_sameBools.f k a b =
 cn (!decide ((↑a.length : Int) = (↑b.length : Int)))
 (some false)
 (w_sameBools.l0 k k a b ((↑a.length : Int)) ((0 : Int))) := (opq_eq _).trans (by kernel_rfl)
abbrev w_sameDisks.s : Sig := ⟨41, [], [.val, .val], [.agg [.row 9 .str, .row 9 .str, .row 4 .bool], .agg [.row 9 .str, .row 9 .str, .row 4 .bool]], [.one .bool], [], []⟩
noncomputable def w_sameDisks.C (k : Nat) : List (Nat × Ctr) := [(18, w_sameTexts.s.ctr (fun x => w_sameTexts.f k x.1 x.2)), (92, w_sameBools.s.ctr (fun x => w_sameBools.f k x.1 x.2))]
noncomputable def w_sameDisks.f (k : Nat) (a_Plate : List ByteArray) (a_Held : List ByteArray) (a_Bad : List Bool) (b_Plate : List ByteArray) (b_Held : List ByteArray) (b_Bad : List Bool) : Option Bool := opq (w_sameDisks.s.run Try.prog (w_sameDisks.C k) k ((a_Plate, a_Held, a_Bad), (b_Plate, b_Held, b_Bad)))
theorem w_sameDisks.ok (k : Nat) : CtrOk Try.prog 41 (w_sameDisks.s.ctr (fun x => w_sameDisks.f k x.1.1 x.1.2.1 x.1.2.2 x.2.1 x.2.2.1 x.2.2.2)) := sig_ok w_sameDisks.s (.cons (w_sameTexts.ok k) (.cons (w_sameBools.ok k) .nil)) (by kernel_rfl) fun _ => opq_eq _
theorem w_sameDisks.f_eq (k : Nat) (a_Plate : List ByteArray) (a_Held : List ByteArray) (a_Bad : List Bool) (b_Plate : List ByteArray) (b_Held : List ByteArray) (b_Bad : List Bool) : w_sameDisks.f k a_Plate a_Held a_Bad b_Plate b_Held b_Bad =
 (w_sameTexts.f k a_Plate b_Plate).bind fun d0 =>
 cn d0
 ((w_sameTexts.f k a_Held b_Held).bind fun d1 =>
  cn d1
  ((w_sameBools.f k a_Bad b_Bad).bind fun d2 =>
   some d2)
  (some false))
 (some false) := (opq_eq _).trans (by kernel_rfl)
abbrev w_sameInts.s : Sig := ⟨11, [], [.val, .val], [.one (.row 3 (.int .i64)), .one (.row 3 (.int .i64))], [.one .bool], [], [(0, [(0,false),(1,false),(12,false),(13,false)])]⟩
noncomputable def w_sameInts.C (k : Nat) : List (Nat × Ctr) := []
noncomputable def w_sameInts.f (k : Nat) (a : List Int) (b : List Int) : Option Bool := opq (w_sameInts.s.run Try.prog (w_sameInts.C k) k (a, b))
theorem w_sameInts.ok (k : Nat) : CtrOk Try.prog 11 (w_sameInts.s.ctr (fun x => w_sameInts.f k x.1 x.2)) := sig_ok w_sameInts.s .nil (by kernel_rfl) fun _ => opq_eq _
noncomputable def w_sameInts.l0 (k : Nat) (m : Nat) (a0 : List Int) (b1 : List Int) (t12 : Int) (t13 : Int) : Option Bool := w_sameInts.s.head Try.prog (w_sameInts.C k) k 1 0 [] m [(0, AV.row 3 (Kind.int IntKind.i64) a0), (1, AV.row 3 (Kind.int IntKind.i64) b1), (12, AV.int IntKind.i64 t12), (13, AV.int IntKind.i64 t13)] [Root.dead]
theorem w_sameInts.l0_z (k : Nat) (a0 : List Int) (b1 : List Int) (t12 : Int) (t13 : Int) : w_sameInts.l0 k 0 a0 b1 t12 t13 = none := by kernel_rfl
theorem w_sameInts.l0_s (k : Nat) (m : Nat) (a0 : List Int) (b1 : List Int) (t12 : Int) (t13 : Int) : w_sameInts.l0 k (m + 1) a0 b1 t12 t13 =
 cn (decide (t13 < t12))
 (gd (inb t13 a0.length)
  (gd (inb t13 b1.length)
   (cn (!decide (getAt (0 : Int) a0 t13.toNat = getAt (0 : Int) b1 t13.toNat))
    (some false)
    (w_sameInts.l0 k m a0 b1 t12 (IntKind.i64.wrap (t13 + (1 : Int)))))))
 (some true) := by kernel_rfl
theorem w_sameInts.f_eq (k : Nat) (a : List Int) (b : List Int) : w_sameInts.f k a b =
 cn (!decide ((↑a.length : Int) = (↑b.length : Int)))
 (some false)
 (w_sameInts.l0 k k a b ((↑a.length : Int)) ((0 : Int))) := (opq_eq _).trans (by kernel_rfl)
abbrev w_sameJournals.s : Sig := ⟨8, [], [.val, .val], [.agg [.row 9 .str, .row 9 .str, .row 4 .bool, .int .i64, .int .i64, .row 3 (.int .i64), .row 3 (.int .i64)], .agg [.row 9 .str, .row 9 .str, .row 4 .bool, .int .i64, .int .i64, .row 3 (.int .i64), .row 3 (.int .i64)]], [.one .bool], [], []⟩
noncomputable def w_sameJournals.C (k : Nat) : List (Nat × Ctr) := [(11, w_sameInts.s.ctr (fun x => w_sameInts.f k x.1 x.2)), (41, w_sameDisks.s.ctr (fun x => w_sameDisks.f k x.1.1 x.1.2.1 x.1.2.2 x.2.1 x.2.2.1 x.2.2.2))]
noncomputable def w_sameJournals.f (k : Nat) (a_Disk_Plate : List ByteArray) (a_Disk_Held : List ByteArray) (a_Disk_Bad : List Bool) (a_Epoch : Int) (a_Phase : Int) (a_Acked : List Int) (a_Coming : List Int) (b_Disk_Plate : List ByteArray) (b_Disk_Held : List ByteArray) (b_Disk_Bad : List Bool) (b_Epoch : Int) (b_Phase : Int) (b_Acked : List Int) (b_Coming : List Int) : Option Bool := opq (w_sameJournals.s.run Try.prog (w_sameJournals.C k) k ((a_Disk_Plate, a_Disk_Held, a_Disk_Bad, a_Epoch, a_Phase, a_Acked, a_Coming), (b_Disk_Plate, b_Disk_Held, b_Disk_Bad, b_Epoch, b_Phase, b_Acked, b_Coming)))
theorem w_sameJournals.ok (k : Nat) : CtrOk Try.prog 8 (w_sameJournals.s.ctr (fun x => w_sameJournals.f k x.1.1 x.1.2.1 x.1.2.2.1 x.1.2.2.2.1 x.1.2.2.2.2.1 x.1.2.2.2.2.2.1 x.1.2.2.2.2.2.2 x.2.1 x.2.2.1 x.2.2.2.1 x.2.2.2.2.1 x.2.2.2.2.2.1 x.2.2.2.2.2.2.1 x.2.2.2.2.2.2.2)) := sig_ok w_sameJournals.s (.cons (w_sameInts.ok k) (.cons (w_sameDisks.ok k) .nil)) (by kernel_rfl) fun _ => opq_eq _
theorem w_sameJournals.f_eq (k : Nat) (a_Disk_Plate : List ByteArray) (a_Disk_Held : List ByteArray) (a_Disk_Bad : List Bool) (a_Epoch : Int) (a_Phase : Int) (a_Acked : List Int) (a_Coming : List Int) (b_Disk_Plate : List ByteArray) (b_Disk_Held : List ByteArray) (b_Disk_Bad : List Bool) (b_Epoch : Int) (b_Phase : Int) (b_Acked : List Int) (b_Coming : List Int) : w_sameJournals.f k a_Disk_Plate a_Disk_Held a_Disk_Bad a_Epoch a_Phase a_Acked a_Coming b_Disk_Plate b_Disk_Held b_Disk_Bad b_Epoch b_Phase b_Acked b_Coming =
 (w_sameDisks.f k a_Disk_Plate a_Disk_Held a_Disk_Bad b_Disk_Plate b_Disk_Held b_Disk_Bad).bind fun d0 =>
 cn d0
 (cn (decide (a_Epoch = b_Epoch))
  (cn (decide (a_Phase = b_Phase))
   ((w_sameInts.f k a_Acked b_Acked).bind fun d1 =>
    cn d1
    ((w_sameInts.f k a_Coming b_Coming).bind fun d2 =>
     some d2)
    (some false))
   (some false))
  (some false))
 (some false) := (opq_eq _).trans (by kernel_rfl)
abbrev s_DrawRecoverFrom.s : Sig := ⟨12, [], [.val], [.one (.row 5 (.int .u8))], [.agg [.own 9 .str, .own 9 .str, .own 4 .bool]], [], []⟩
noncomputable def s_DrawRecoverFrom.C (k : Nat) : List (Nat × Ctr) := [(36, c_journal.s.ctr (fun x => c_journal.f k x.1 x.2.1 x.2.2))]
noncomputable def s_DrawRecoverFrom.f (k : Nat) (code : List Int) : Option (List ByteArray × List ByteArray × List Bool) := opq (s_DrawRecoverFrom.s.run Try.prog (s_DrawRecoverFrom.C k) k code)
theorem s_DrawRecoverFrom.ok (k : Nat) : CtrOk Try.prog 12 (s_DrawRecoverFrom.s.ctr (fun x => s_DrawRecoverFrom.f k x)) := sig_ok s_DrawRecoverFrom.s (.cons (c_journal.ok k) .nil) (by kernel_rfl) fun _ => opq_eq _
theorem s_DrawRecoverFrom.f_eq (k : Nat) (code : List Int) : s_DrawRecoverFrom.f k code =
 (c_journal.f k code (0 : Int) (0 : Int)).bind fun d0 =>
 some ((d0.fst.fst, d0.fst.snd.fst, d0.fst.snd.snd.fst)) := (opq_eq _).trans (by kernel_rfl)
abbrev s_RecoverFrom.s : Sig := ⟨14, [], [.val], [.agg [.row 9 .str, .row 9 .str, .row 4 .bool]], [.one (.own 3 (.int .i64)), .one (.int .i64), .one .bool], [], []⟩
noncomputable def s_RecoverFrom.C (k : Nat) : List (Nat × Ctr) := [(48, s_GoodDisk.s.ctr (fun x => s_GoodDisk.f k x.1 x.2.1 x.2.2)), (51, s_l15Recover.s.ctr (fun x => s_l15Recover.f k x.1 x.2.1 x.2.2))]
noncomputable def s_RecoverFrom.f (k : Nat) (d_Plate : List ByteArray) (d_Held : List ByteArray) (d_Bad : List Bool) : Option (List Int × Int × Bool) := opq (s_RecoverFrom.s.run Try.prog (s_RecoverFrom.C k) k (d_Plate, d_Held, d_Bad))
theorem s_RecoverFrom.ok (k : Nat) : CtrOk Try.prog 14 (s_RecoverFrom.s.ctr (fun x => s_RecoverFrom.f k x.1 x.2.1 x.2.2)) := sig_ok s_RecoverFrom.s (.cons (s_GoodDisk.ok k) (.cons (s_l15Recover.ok k) .nil)) (by kernel_rfl) fun _ => opq_eq _
theorem s_RecoverFrom.f_eq (k : Nat) (d_Plate : List ByteArray) (d_Held : List ByteArray) (d_Bad : List Bool) : s_RecoverFrom.f k d_Plate d_Held d_Bad =
 (s_GoodDisk.f k d_Plate d_Held d_Bad).bind fun d0 =>
 cn (!d0)
 (some (([], (0 : Int), false)))
 (cn (!decide ((↑d_Plate.length : Int) = (5 : Int)))
  (some (([], (0 : Int), false)))
  ((s_l15Recover.f k d_Plate d_Held d_Bad).bind fun d1 =>
   cn (decide (d1.snd < (0 : Int)))
   (some (([], (0 : Int), false)))
   (some ((d1.fst, d1.snd, true))))) := (opq_eq _).trans (by kernel_rfl)
abbrev s_DrawStateBytes.s : Sig := ⟨15, [], [.val], [.one (.row 5 (.int .u8))], [.one (.own 3 (.int .i64))], [], []⟩
noncomputable def s_DrawStateBytes.C (k : Nat) : List (Nat × Ctr) := [(58, c_state15.s.ctr (fun x => c_state15.f k x.1 x.2.1 x.2.2))]
noncomputable def s_DrawStateBytes.f (k : Nat) (code : List Int) : Option (List Int) := opq (s_DrawStateBytes.s.run Try.prog (s_DrawStateBytes.C k) k code)
theorem s_DrawStateBytes.ok (k : Nat) : CtrOk Try.prog 15 (s_DrawStateBytes.s.ctr (fun x => s_DrawStateBytes.f k x)) := sig_ok s_DrawStateBytes.s (.cons (c_state15.ok k) .nil) (by kernel_rfl) fun _ => opq_eq _
theorem s_DrawStateBytes.f_eq (k : Nat) (code : List Int) : s_DrawStateBytes.f k code =
 (c_state15.f k code (0 : Int) (0 : Int)).bind fun d0 =>
 some d0.fst := (opq_eq _).trans (by kernel_rfl)
abbrev i_StateBytes.s : Sig := ⟨16, [], [.val], [.one (.row 3 (.int .i64))], [.one (.own 9 .str), .one .bool], [], []⟩
noncomputable def i_StateBytes.C (k : Nat) : List (Nat × Ctr) := [(45, i_isState.s.ctr (fun x => i_isState.f k x)), (59, i_stateBytes.s.ctr (fun x => i_stateBytes.f k x))]
noncomputable def i_StateBytes.f (k : Nat) (values : List Int) : Option (List ByteArray × Bool) := opq (i_StateBytes.s.run Try.prog (i_StateBytes.C k) k values)
theorem i_StateBytes.ok (k : Nat) : CtrOk Try.prog 16 (i_StateBytes.s.ctr (fun x => i_StateBytes.f k x)) := sig_ok i_StateBytes.s (.cons (i_isState.ok k) (.cons (i_stateBytes.ok k) .nil)) (by kernel_rfl) fun _ => opq_eq _
theorem i_StateBytes.f_eq (k : Nat) (values : List Int) : i_StateBytes.f k values =
 (i_isState.f k values).bind fun d0 =>
 cn (!d0)
 (some (([], false)))
 ((i_stateBytes.f k values).bind fun d1 =>
  some ((d1, true))) := (opq_eq _).trans (by kernel_rfl)
abbrev s_StateBytes.s : Sig := ⟨17, [], [.val], [.one (.row 3 (.int .i64))], [.one (.own 9 .str), .one .bool], [], []⟩
noncomputable def s_StateBytes.C (k : Nat) : List (Nat × Ctr) := [(49, s_l15State.s.ctr (fun x => s_l15State.f k x)), (60, s_l15Bytes.s.ctr (fun x => s_l15Bytes.f k x))]
noncomputable def s_StateBytes.f (k : Nat) (values : List Int) : Option (List ByteArray × Bool) := opq (s_StateBytes.s.run Try.prog (s_StateBytes.C k) k values)
theorem s_StateBytes.ok (k : Nat) : CtrOk Try.prog 17 (s_StateBytes.s.ctr (fun x => s_StateBytes.f k x)) := sig_ok s_StateBytes.s (.cons (s_l15State.ok k) (.cons (s_l15Bytes.ok k) .nil)) (by kernel_rfl) fun _ => opq_eq _
theorem s_StateBytes.f_eq (k : Nat) (values : List Int) : s_StateBytes.f k values =
 (s_l15State.f k values).bind fun d0 =>
 cn (!d0)
 (some (([], false)))
 ((s_l15Bytes.f k values).bind fun d1 =>
  some ((d1, true))) := (opq_eq _).trans (by kernel_rfl)
abbrev c_of.s : Sig := ⟨63, [], [.pbox 69, .give], [.agg [.row 5 (.int .u8), .int .i64, .int .u64], .one (.row 9 .str)], [.one .str], [.box 69 [.row 5 (.int .u8), .int .i64, .int .u64]], []⟩
noncomputable def c_of.C (k : Nat) : List (Nat × Ctr) := [(85, c_pick.s.ctr (fun x => c_pick.f k x.1.1 x.1.2.1 x.1.2.2 x.2))]
noncomputable def c_of.f (k : Nat) (c_code : List Int) (c_at : Int) (c_seed : Int) (list : List ByteArray) : Option (ByteArray × (List Int × Int × Int)) := opq (c_of.s.run Try.prog (c_of.C k) k ((c_code, c_at, c_seed), list))
theorem c_of.ok (k : Nat) : CtrOk Try.prog 63 (c_of.s.ctr (fun x => c_of.f k x.1.1 x.1.2.1 x.1.2.2 x.2)) := sig_ok c_of.s (.cons (c_pick.ok k) .nil) (by kernel_rfl) fun _ => opq_eq _
theorem c_of.f_eq (k : Nat) (c_code : List Int) (c_at : Int) (c_seed : Int) (list : List ByteArray) : c_of.f k c_code c_at c_seed list =
 (c_pick.f k c_code c_at c_seed (↑list.length : Int)).bind fun d0 =>
 gd (inb d0.fst list.length)
 (some ((getAt ByteArray.empty list (Int.toNat d0.fst), d0.snd.fst, d0.snd.snd.fst, d0.snd.snd.snd))) := (opq_eq _).trans (by kernel_rfl)
abbrev s_DrawStateFrom.s : Sig := ⟨20, [], [.val], [.one (.row 5 (.int .u8))], [.one (.own 9 .str)], [], []⟩
noncomputable def s_DrawStateFrom.C (k : Nat) : List (Nat × Ctr) := [(17, s_StateBytes.s.ctr (fun x => s_StateBytes.f k x)), (58, c_state15.s.ctr (fun x => c_state15.f k x.1 x.2.1 x.2.2)), (62, c_one.s.ctr (fun x => c_one.f k x.1.1 x.1.2.1 x.1.2.2 x.2)), (63, c_of.s.ctr (fun x => c_of.f k x.1.1 x.1.2.1 x.1.2.2 x.2))]
noncomputable def s_DrawStateFrom.f (k : Nat) (code : List Int) : Option (List ByteArray) := opq (s_DrawStateFrom.s.run Try.prog (s_DrawStateFrom.C k) k code)
theorem s_DrawStateFrom.ok (k : Nat) : CtrOk Try.prog 20 (s_DrawStateFrom.s.ctr (fun x => s_DrawStateFrom.f k x)) := sig_ok s_DrawStateFrom.s (.cons (s_StateBytes.ok k) (.cons (c_state15.ok k) (.cons (c_one.ok k) (.cons (c_of.ok k) .nil)))) (by kernel_rfl) fun _ => opq_eq _
theorem s_DrawStateFrom.f_eq (k : Nat) (code : List Int) : s_DrawStateFrom.f k code =
 (c_state15.f k code (0 : Int) (0 : Int)).bind fun d0 =>
 (s_StateBytes.f k d0.fst).bind fun d1 =>
 cn (!d1.snd)
 ((c_of.f k d0.snd.fst d0.snd.snd.fst d0.snd.snd.snd [{ data := #[(103 : UInt8), (104 : UInt8), (105 : UInt8), (106 : UInt8), (107 : UInt8), (108 : UInt8)] : ByteArray }, { data := #[(120 : UInt8)] : ByteArray }]).bind fun d2 =>
  some ([{ data := #[(97 : UInt8), (98 : UInt8), (99 : UInt8), (100 : UInt8), (101 : UInt8), (102 : UInt8)] : ByteArray }, d2.fst]))
 ((c_one.f k d0.snd.fst d0.snd.snd.fst d0.snd.snd.snd (6 : Int)).bind fun d2 =>
  cn d2.fst
  ((c_of.f k d2.snd.fst d2.snd.snd.fst d2.snd.snd.snd [{ data := #[(103 : UInt8), (104 : UInt8), (105 : UInt8), (106 : UInt8), (107 : UInt8), (108 : UInt8)] : ByteArray }, { data := #[(120 : UInt8)] : ByteArray }]).bind fun d3 =>
   some ([{ data := #[(97 : UInt8), (98 : UInt8), (99 : UInt8), (100 : UInt8), (101 : UInt8), (102 : UInt8)] : ByteArray }, d3.fst]))
  (some d1.fst)) := (opq_eq _).trans (by kernel_rfl)
abbrev s_DrawHalfOf.s : Sig := ⟨22, [], [.val], [.one (.row 5 (.int .u8))], [.one (.int .i64)], [], []⟩
noncomputable def s_DrawHalfOf.C (k : Nat) : List (Nat × Ctr) := [(65, c_among.s.ctr (fun x => c_among.f k x.1.1 x.1.2.1 x.1.2.2 x.2))]
noncomputable def s_DrawHalfOf.f (k : Nat) (code : List Int) : Option Int := opq (s_DrawHalfOf.s.run Try.prog (s_DrawHalfOf.C k) k code)
theorem s_DrawHalfOf.ok (k : Nat) : CtrOk Try.prog 22 (s_DrawHalfOf.s.ctr (fun x => s_DrawHalfOf.f k x)) := sig_ok s_DrawHalfOf.s (.cons (c_among.ok k) .nil) (by kernel_rfl) fun _ => opq_eq _
theorem s_DrawHalfOf.f_eq (k : Nat) (code : List Int) : s_DrawHalfOf.f k code =
 (c_among.f k code (0 : Int) (0 : Int) [(-1 : Int), (0 : Int), (1 : Int), (2 : Int), (60000 : Int), (60001 : Int)]).bind fun d0 =>
 some d0.fst := (opq_eq _).trans (by kernel_rfl)
abbrev i_HalfOf.s : Sig := ⟨23, [], [.val], [.one (.int .i64)], [.one (.int .i64), .one .bool], [], []⟩
noncomputable def i_HalfOf.C (k : Nat) : List (Nat × Ctr) := [(44, i_within.s.ctr (fun x => i_within.f k x.1 x.2.1 x.2.2)), (57, i_halfOf.s.ctr (fun x => i_halfOf.f k x))]
noncomputable def i_HalfOf.f (k : Nat) (epoch : Int) : Option (Int × Bool) := opq (i_HalfOf.s.run Try.prog (i_HalfOf.C k) k epoch)
theorem i_HalfOf.ok (k : Nat) : CtrOk Try.prog 23 (i_HalfOf.s.ctr (fun x => i_HalfOf.f k x)) := sig_ok i_HalfOf.s (.cons (i_within.ok k) (.cons (i_halfOf.ok k) .nil)) (by kernel_rfl) fun _ => opq_eq _
theorem i_HalfOf.f_eq (k : Nat) (epoch : Int) : i_HalfOf.f k epoch =
 (i_within.f k epoch (0 : Int) (60000 : Int)).bind fun d0 =>
 cn (!d0)
 (some (((0 : Int), false)))
 ((i_halfOf.f k epoch).bind fun d1 =>
  some ((d1, true))) := (opq_eq _).trans (by kernel_rfl)
abbrev s_HalfOf.s : Sig := ⟨24, [], [.val], [.one (.int .i64)], [.one (.int .i64), .one .bool], [], []⟩
noncomputable def s_HalfOf.C (k : Nat) : List (Nat × Ctr) := [(50, s_l1In.s.ctr (fun x => s_l1In.f k x.1 x.2.1 x.2.2)), (66, s_l15Half.s.ctr (fun x => s_l15Half.f k x))]
noncomputable def s_HalfOf.f (k : Nat) (epoch : Int) : Option (Int × Bool) := opq (s_HalfOf.s.run Try.prog (s_HalfOf.C k) k epoch)
theorem s_HalfOf.ok (k : Nat) : CtrOk Try.prog 24 (s_HalfOf.s.ctr (fun x => s_HalfOf.f k x)) := sig_ok s_HalfOf.s (.cons (s_l1In.ok k) (.cons (s_l15Half.ok k) .nil)) (by kernel_rfl) fun _ => opq_eq _
theorem s_HalfOf.f_eq (k : Nat) (epoch : Int) : s_HalfOf.f k epoch =
 (s_l1In.f k epoch (0 : Int) (60000 : Int)).bind fun d0 =>
 cn (!d0)
 (some (((0 : Int), false)))
 ((s_l15Half.f k epoch).bind fun d1 =>
  some ((d1, true))) := (opq_eq _).trans (by kernel_rfl)
abbrev i_NewDisk.s : Sig := ⟨67, [], [.val], [.one (.int .i64)], [.agg [.own 9 .str, .own 9 .str, .own 4 .bool], .one .bool], [], []⟩
noncomputable def i_NewDisk.C (k : Nat) : List (Nat × Ctr) := [(44, i_within.s.ctr (fun x => i_within.f k x.1 x.2.1 x.2.2))]
noncomputable def i_NewDisk.f (k : Nat) (sectors : Int) : Option ((List ByteArray × List ByteArray × List Bool) × Bool) := opq (i_NewDisk.s.run Try.prog (i_NewDisk.C k) k sectors)
theorem i_NewDisk.ok (k : Nat) : CtrOk Try.prog 67 (i_NewDisk.s.ctr (fun x => i_NewDisk.f k x)) := sig_ok i_NewDisk.s (.cons (i_within.ok k) .nil) (by kernel_rfl) fun _ => opq_eq _
theorem i_NewDisk.f_eq (k : Nat) (sectors : Int) : i_NewDisk.f k sectors =
 (i_within.f k sectors (1 : Int) (24 : Int)).bind fun d0 =>
 cn (!d0)
 (some ((([], [], []), false)))
 (both
  (gd (mkOk sectors sectors (Try.prog.bytesOf (9 : Nat)))
   (both
    (gd (mkOk sectors sectors (Try.prog.bytesOf (9 : Nat)))
     (gd (mkOk sectors sectors (Try.prog.bytesOf (4 : Nat)))
      (some (((List.replicate sectors.toNat ByteArray.empty, List.replicate sectors.toNat ByteArray.empty, List.replicate sectors.toNat false), true)))))
    (gd (mkOk sectors sectors (Try.prog.bytesOf (4 : Nat)))
     (gd (mkOk sectors sectors (Try.prog.bytesOf (9 : Nat)))
      (some (((List.replicate sectors.toNat ByteArray.empty, List.replicate sectors.toNat ByteArray.empty, List.replicate sectors.toNat false), true)))))))
  (both
   (gd (mkOk sectors sectors (Try.prog.bytesOf (9 : Nat)))
    (both
     (gd (mkOk sectors sectors (Try.prog.bytesOf (9 : Nat)))
      (gd (mkOk sectors sectors (Try.prog.bytesOf (4 : Nat)))
       (some (((List.replicate sectors.toNat ByteArray.empty, List.replicate sectors.toNat ByteArray.empty, List.replicate sectors.toNat false), true)))))
     (gd (mkOk sectors sectors (Try.prog.bytesOf (4 : Nat)))
      (gd (mkOk sectors sectors (Try.prog.bytesOf (9 : Nat)))
       (some (((List.replicate sectors.toNat ByteArray.empty, List.replicate sectors.toNat ByteArray.empty, List.replicate sectors.toNat false), true)))))))
   (gd (mkOk sectors sectors (Try.prog.bytesOf (4 : Nat)))
    (dup
     (gd (mkOk sectors sectors (Try.prog.bytesOf (9 : Nat)))
      (gd (mkOk sectors sectors (Try.prog.bytesOf (9 : Nat)))
       (some (((List.replicate sectors.toNat ByteArray.empty, List.replicate sectors.toNat ByteArray.empty, List.replicate sectors.toNat false), true))))))))) := (opq_eq _).trans (by kernel_rfl)
abbrev i_NewJournal.s : Sig := ⟨25, [], [], [], [.agg [.own 9 .str, .own 9 .str, .own 4 .bool, .int .i64, .int .i64, .own 3 (.int .i64), .own 3 (.int .i64)]], [], []⟩
noncomputable def i_NewJournal.C (k : Nat) : List (Nat × Ctr) := [(67, i_NewDisk.s.ctr (fun x => i_NewDisk.f k x)), (68, i_sectorsOf.s.ctr (fun x => i_sectorsOf.f k x.1 x.2)), (69, i_rootOf.s.ctr (fun x => i_rootOf.f k x))]
noncomputable def i_NewJournal.f (k : Nat)  : Option (List ByteArray × List ByteArray × List Bool × Int × Int × List Int × List Int) := opq (i_NewJournal.s.run Try.prog (i_NewJournal.C k) k ())
theorem i_NewJournal.ok (k : Nat) : CtrOk Try.prog 25 (i_NewJournal.s.ctr (fun _ => i_NewJournal.f k)) := sig_ok i_NewJournal.s (.cons (i_NewDisk.ok k) (.cons (i_sectorsOf.ok k) (.cons (i_rootOf.ok k) .nil))) (by kernel_rfl) fun _ => opq_eq _
theorem i_NewJournal.f_eq (k : Nat) : i_NewJournal.f k =
 (i_NewDisk.f k (5 : Int)).bind fun d0 =>
 (i_sectorsOf.f k (0 : Int) (List.replicate (6 : Nat) (0 : Int))).bind fun d1 =>
 (i_rootOf.f k (0 : Int)).bind fun d2 =>
 gd (inb (0 : Int) d0.fst.fst.length)
 (gd (decide ((0 : Int) ≤ d1.snd) && decide (d1.snd ≤ (↑(d0.fst.fst.set (0 : Nat) d2).length : Int)))
  (some ((copyL (d0.fst.fst.set (0 : Nat) d2) ((0 : Nat) + Int.toNat d1.snd) ((d0.fst.fst.set (0 : Nat) d2).length - Int.toNat d1.snd) d1.fst, d0.fst.snd.fst, d0.fst.snd.snd, (0 : Int), (0 : Int), List.replicate (6 : Nat) (0 : Int), [])))) := (opq_eq _).trans (by kernel_rfl)
abbrev w_FnJournalSteps.s : Sig := ⟨3, [], [.val, .val], [.one (.row 5 (.int .u8)), .one (.row 5 (.int .u8))], [.one .bool], [], [(1000025, [(1,false)]), (1000021, [(1,false),(18,true),(19,true),(20,false)]), (1000013, [(1,false)]), (1000008, [(1,false),(5,false),(6,false),(7,false),(8,false)])]⟩
noncomputable def w_FnJournalSteps.C (k : Nat) : List (Nat × Ctr) := [(10, s_GoodJournal.s.ctr (fun x => s_GoodJournal.f k x.1 x.2.1 x.2.2.1 x.2.2.2.1 x.2.2.2.2.1 x.2.2.2.2.2.1 x.2.2.2.2.2.2)), (11, w_sameInts.s.ctr (fun x => w_sameInts.f k x.1 x.2)), (12, s_DrawRecoverFrom.s.ctr (fun x => s_DrawRecoverFrom.f k x)), (13, i_RecoverFrom.s.ctr (fun x => i_RecoverFrom.f k x.1 x.2.1 x.2.2)), (14, s_RecoverFrom.s.ctr (fun x => s_RecoverFrom.f k x.1 x.2.1 x.2.2)), (15, s_DrawStateBytes.s.ctr (fun x => s_DrawStateBytes.f k x)), (16, i_StateBytes.s.ctr (fun x => i_StateBytes.f k x)), (17, s_StateBytes.s.ctr (fun x => s_StateBytes.f k x)), (18, w_sameTexts.s.ctr (fun x => w_sameTexts.f k x.1 x.2)), (19, i_StateFrom.s.ctr (fun x => i_StateFrom.f k x)), (20, s_DrawStateFrom.s.ctr (fun x => s_DrawStateFrom.f k x)), (21, s_StateFrom.s.ctr (fun x => s_StateFrom.f k x)), (22, s_DrawHalfOf.s.ctr (fun x => s_DrawHalfOf.f k x)), (23, i_HalfOf.s.ctr (fun x => i_HalfOf.f k x)), (24, s_HalfOf.s.ctr (fun x => s_HalfOf.f k x)), (25, i_NewJournal.s.ctr (fun _ => i_NewJournal.f k)), (26, s_NewJournal.s.ctr (fun _ => s_NewJournal.f k)), (5, s_DrawStepJournal.s.ctr (fun x => s_DrawStepJournal.f k x)), (6, i_StepJournal.s.ctr (fun x => i_StepJournal.f k x.1.1 x.1.2.1 x.1.2.2.1 x.1.2.2.2.1 x.1.2.2.2.2.1 x.1.2.2.2.2.2.1 x.1.2.2.2.2.2.2 x.2.1 x.2.2.1 x.2.2.2)), (7, s_StepJournal.s.ctr (fun x => s_StepJournal.f k x.1.1 x.1.2.1 x.1.2.2.1 x.1.2.2.2.1 x.1.2.2.2.2.1 x.1.2.2.2.2.2.1 x.1.2.2.2.2.2.2 x.2.1 x.2.2.1 x.2.2.2)), (8, w_sameJournals.s.ctr (fun x => w_sameJournals.f k x.1.1 x.1.2.1 x.1.2.2.1 x.1.2.2.2.1 x.1.2.2.2.2.1 x.1.2.2.2.2.2.1 x.1.2.2.2.2.2.2 x.2.1 x.2.2.1 x.2.2.2.1 x.2.2.2.2.1 x.2.2.2.2.2.1 x.2.2.2.2.2.2.1 x.2.2.2.2.2.2.2)), (9, i_GoodJournal.s.ctr (fun x => i_GoodJournal.f k x.1 x.2.1 x.2.2.1 x.2.2.2.1 x.2.2.2.2.1 x.2.2.2.2.2.1 x.2.2.2.2.2.2))]
noncomputable def w_FnJournalSteps.f (k : Nat) (code : List Int) (more : List Int) : Option Bool := opq (w_FnJournalSteps.s.run Try.prog (w_FnJournalSteps.C k) k (code, more))
theorem w_FnJournalSteps.ok (k : Nat) : CtrOk Try.prog 3 (w_FnJournalSteps.s.ctr (fun x => w_FnJournalSteps.f k x.1 x.2)) := sig_ok w_FnJournalSteps.s (.cons (s_GoodJournal.ok k) (.cons (w_sameInts.ok k) (.cons (s_DrawRecoverFrom.ok k) (.cons (i_RecoverFrom.ok k) (.cons (s_RecoverFrom.ok k) (.cons (s_DrawStateBytes.ok k) (.cons (i_StateBytes.ok k) (.cons (s_StateBytes.ok k) (.cons (w_sameTexts.ok k) (.cons (i_StateFrom.ok k) (.cons (s_DrawStateFrom.ok k) (.cons (s_StateFrom.ok k) (.cons (s_DrawHalfOf.ok k) (.cons (i_HalfOf.ok k) (.cons (s_HalfOf.ok k) (.cons (i_NewJournal.ok k) (.cons (s_NewJournal.ok k) (.cons (s_DrawStepJournal.ok k) (.cons (i_StepJournal.ok k) (.cons (s_StepJournal.ok k) (.cons (w_sameJournals.ok k) (.cons (i_GoodJournal.ok k) .nil)))))))))))))))))))))) (by kernel_rfl) fun _ => opq_eq _
noncomputable def w_FnJournalSteps.l1000008 (k : Nat) (m : Nat) (more1 : List Int) (ok8 : Bool) (h1 : List ByteArray) (h2 : List ByteArray) (h3 : List Bool) (h4 : List Int) (h5 : List Int) (h6 : Int) (h6_ : Int) (h7 : Int) (h7_ : List Int) (h7__ : List Int) (h8 : List ByteArray) (h9 : List ByteArray) (h10 : List Bool) (h11 : List Int) (h12 : List Int) (h13 : Int) (h13_ : Int) : Option Bool := w_FnJournalSteps.s.head Try.prog (w_FnJournalSteps.C k) k 1 1000008 [] m [(1, AV.row 5 (Kind.int IntKind.u8) more1), (5, AV.ptr 6 0 0), (6, AV.ptr 7 0 0), (7, AV.ptr 13 0 0), (8, AV.bool ok8)] [Root.dead, Root.rows 9 Kind.str h1, Root.rows 9 Kind.str h2, Root.rows 4 Kind.bool h3, Root.rows 3 (Kind.int IntKind.i64) h4, Root.rows 3 (Kind.int IntKind.i64) h5, Root.box 29 [AV.ref 1, AV.ref 2, AV.ref 3, AV.int IntKind.i64 h6, AV.int IntKind.i64 h6_, AV.ref 4, AV.ref 5], Root.box 31 [AV.int IntKind.i64 h7, AV.row 3 (Kind.int IntKind.i64) h7_, AV.row 3 (Kind.int IntKind.i64) h7__], Root.rows 9 Kind.str h8, Root.rows 9 Kind.str h9, Root.rows 4 Kind.bool h10, Root.rows 3 (Kind.int IntKind.i64) h11, Root.rows 3 (Kind.int IntKind.i64) h12, Root.box 29 [AV.ref 8, AV.ref 9, AV.ref 10, AV.int IntKind.i64 h13, AV.int IntKind.i64 h13_, AV.ref 11, AV.ref 12]]
noncomputable def w_FnJournalSteps.l1000013 (k : Nat) (m : Nat) (more1 : List Int) : Option Bool := w_FnJournalSteps.s.head Try.prog (w_FnJournalSteps.C k) k 1 1000013 [] m [(1, AV.row 5 (Kind.int IntKind.u8) more1)] [Root.dead]
noncomputable def w_FnJournalSteps.l1000021 (k : Nat) (m : Nat) (more1 : List Int) (one20 : Bool) (h1 : List Int) (h2 : List ByteArray) : Option Bool := w_FnJournalSteps.s.head Try.prog (w_FnJournalSteps.C k) k 1 1000021 [] m [(1, AV.row 5 (Kind.int IntKind.u8) more1), (18, AV.ref 1), (19, AV.ref 2), (20, AV.bool one20)] [Root.dead, Root.rows 3 (Kind.int IntKind.i64) h1, Root.rows 9 Kind.str h2]
noncomputable def w_FnJournalSteps.l1000025 (k : Nat) (m : Nat) (more1 : List Int) : Option Bool := w_FnJournalSteps.s.head Try.prog (w_FnJournalSteps.C k) k 1 1000025 [] m [(1, AV.row 5 (Kind.int IntKind.u8) more1)] [Root.dead]
theorem w_FnJournalSteps.l1000008_s (k : Nat) (m : Nat) (more1 : List Int) (ok8 : Bool) (h1 : List ByteArray) (h2 : List ByteArray) (h3 : List Bool) (h4 : List Int) (h5 : List Int) (h6 : Int) (h6_ : Int) (h7 : Int) (h7_ : List Int) (h7__ : List Int) (h8 : List ByteArray) (h9 : List ByteArray) (h10 : List Bool) (h11 : List Int) (h12 : List Int) (h13 : Int) (h13_ : Int) : w_FnJournalSteps.l1000008 k m more1 ok8 h1 h2 h3 h4 h5 h6 h6_ h7 h7_ h7__ h8 h9 h10 h11 h12 h13 h13_ =
 cn ok8
 ((i_GoodJournal.f k h8 h9 h10 h13 h13_ h11 h12).bind fun d0 =>
  cn (!d0)
  (some false)
  (cn (!decide (h7 = (4 : Int)))
   (cn (!decide (h13 = h6))
    (cn (!decide (h7 = (2 : Int)))
     (some false)
     (cn (!decide (h6_ = (3 : Int)))
      (some false)
      ((w_sameInts.f k h11 h5).bind fun d1 =>
       cn (!d1)
       (some false)
       (cn (!decide (h7 = (4 : Int)))
        (cn (decide (h13 = h6))
         ((w_sameInts.f k h11 h4).bind fun d2 =>
          cn (!d2)
          (some false)
          (w_FnJournalSteps.l1000013 k 0 more1))
         (w_FnJournalSteps.l1000013 k 0 more1))
        (w_FnJournalSteps.l1000013 k 0 more1)))))
    (cn (!decide (h7 = (4 : Int)))
     (cn (decide (h13 = h6))
      ((w_sameInts.f k h11 h4).bind fun d1 =>
       cn (!d1)
       (some false)
       (w_FnJournalSteps.l1000013 k 0 more1))
      (w_FnJournalSteps.l1000013 k 0 more1))
     (w_FnJournalSteps.l1000013 k 0 more1)))
   (cn (!decide (h7 = (4 : Int)))
    (cn (decide (h13 = h6))
     ((w_sameInts.f k h11 h4).bind fun d1 =>
      cn (!d1)
      (some false)
      (w_FnJournalSteps.l1000013 k 0 more1))
     (w_FnJournalSteps.l1000013 k 0 more1))
    (w_FnJournalSteps.l1000013 k 0 more1))))
 (w_FnJournalSteps.l1000013 k 0 more1) := by kernel_rfl
theorem w_FnJournalSteps.l1000013_s (k : Nat) (m : Nat) (more1 : List Int) : w_FnJournalSteps.l1000013 k m more1 =
 (s_DrawRecoverFrom.f k more1).bind fun d1 =>
 (i_RecoverFrom.f k d1.fst d1.snd.fst d1.snd.snd).bind fun d2 =>
 (s_RecoverFrom.f k d1.fst d1.snd.fst d1.snd.snd).bind fun d3 =>
 (s_DrawStateBytes.f k more1).bind fun d4 =>
 (i_StateBytes.f k d4).bind fun d5 =>
 (s_StateBytes.f k d4).bind fun d6 =>
 cn (!d2.snd.snd == d3.snd.snd)
 (some false)
 (cn (!decide (d2.snd.fst = d3.snd.fst))
  (some false)
  ((w_sameInts.f k d2.fst d3.fst).bind fun d7 =>
   cn (!d7)
   (some false)
   (cn (!d5.snd == d6.snd)
    (some false)
    ((w_sameTexts.f k d5.fst d6.fst).bind fun d8 =>
     cn (!d8)
     (some false)
     (w_FnJournalSteps.l1000021 k 0 more1 d5.snd d4 d5.fst))))) := by kernel_rfl
theorem w_FnJournalSteps.l1000021_s (k : Nat) (m : Nat) (more1 : List Int) (one20 : Bool) (h1 : List Int) (h2 : List ByteArray) : w_FnJournalSteps.l1000021 k m more1 one20 h1 h2 =
 cn one20
 ((i_StateFrom.f k h2).bind fun d7 =>
  cn (!d7.snd)
  (some false)
  ((w_sameInts.f k d7.fst h1).bind fun d8 =>
   cn (!d8)
   (some false)
   (w_FnJournalSteps.l1000025 k 0 more1)))
 (w_FnJournalSteps.l1000025 k 0 more1) := by kernel_rfl
theorem w_FnJournalSteps.l1000025_s (k : Nat) (m : Nat) (more1 : List Int) : w_FnJournalSteps.l1000025 k m more1 =
 (s_DrawStateFrom.f k more1).bind fun d8 =>
 (i_StateFrom.f k d8).bind fun d9 =>
 (s_StateFrom.f k d8).bind fun d10 =>
 (s_DrawHalfOf.f k more1).bind fun d11 =>
 (i_HalfOf.f k d11).bind fun d12 =>
 (s_HalfOf.f k d11).bind fun d13 =>
 (i_NewJournal.f k).bind fun d14 =>
 cn (d9.snd == d10.snd)
 ((w_sameInts.f k d9.fst d10.fst).bind fun d15 =>
  cn d15
  (cn (d12.snd == d13.snd)
   (cn (decide (d12.fst = d13.fst))
    ((i_GoodJournal.f k d14.fst d14.snd.fst d14.snd.snd.fst d14.snd.snd.snd.fst d14.snd.snd.snd.snd.fst d14.snd.snd.snd.snd.snd.fst d14.snd.snd.snd.snd.snd.snd).bind fun d16 =>
     cn d16
     ((s_NewJournal.f k).bind fun d17 =>
      (w_sameJournals.f k d14.fst d14.snd.fst d14.snd.snd.fst d14.snd.snd.snd.fst d14.snd.snd.snd.snd.fst d14.snd.snd.snd.snd.snd.fst d14.snd.snd.snd.snd.snd.snd d17.fst d17.snd.fst d17.snd.snd.fst d17.snd.snd.snd.fst d17.snd.snd.snd.snd.fst d17.snd.snd.snd.snd.snd.fst d17.snd.snd.snd.snd.snd.snd).bind fun d18 =>
      some d18)
     (some false))
    (some false))
   (some false))
  (some false))
 (some false) := by kernel_rfl
theorem w_FnJournalSteps.f_eq (k : Nat) (code : List Int) (more : List Int) : w_FnJournalSteps.f k code more =
 cn (decide ((1048576 : Int) < IntKind.i64.wrap ((↑code.length : Int) + (↑more.length : Int))))
 (some true)
 ((s_DrawStepJournal.f k code).bind fun d0 =>
  (i_StepJournal.f k d0.fst.fst d0.fst.snd.fst d0.fst.snd.snd.fst d0.fst.snd.snd.snd.fst d0.fst.snd.snd.snd.snd.fst d0.fst.snd.snd.snd.snd.snd.fst d0.fst.snd.snd.snd.snd.snd.snd d0.snd.fst d0.snd.snd.fst d0.snd.snd.snd).bind fun d1 =>
  (s_StepJournal.f k d0.fst.fst d0.fst.snd.fst d0.fst.snd.snd.fst d0.fst.snd.snd.snd.fst d0.fst.snd.snd.snd.snd.fst d0.fst.snd.snd.snd.snd.snd.fst d0.fst.snd.snd.snd.snd.snd.snd d0.snd.fst d0.snd.snd.fst d0.snd.snd.snd).bind fun d2 =>
  cn (!d1.snd == d2.snd)
  (some false)
  ((w_sameJournals.f k d1.fst.fst d1.fst.snd.fst d1.fst.snd.snd.fst d1.fst.snd.snd.snd.fst d1.fst.snd.snd.snd.snd.fst d1.fst.snd.snd.snd.snd.snd.fst d1.fst.snd.snd.snd.snd.snd.snd d2.fst.fst d2.fst.snd.fst d2.fst.snd.snd.fst d2.fst.snd.snd.snd.fst d2.fst.snd.snd.snd.snd.fst d2.fst.snd.snd.snd.snd.snd.fst d2.fst.snd.snd.snd.snd.snd.snd).bind fun d3 =>
   cn (!d3)
   (some false)
   ((i_GoodJournal.f k d0.fst.fst d0.fst.snd.fst d0.fst.snd.snd.fst d0.fst.snd.snd.snd.fst d0.fst.snd.snd.snd.snd.fst d0.fst.snd.snd.snd.snd.snd.fst d0.fst.snd.snd.snd.snd.snd.snd).bind fun d4 =>
    (s_GoodJournal.f k d0.fst.fst d0.fst.snd.fst d0.fst.snd.snd.fst d0.fst.snd.snd.snd.fst d0.fst.snd.snd.snd.snd.fst d0.fst.snd.snd.snd.snd.snd.fst d0.fst.snd.snd.snd.snd.snd.snd).bind fun d5 =>
    cn (!d4 == d5)
    (some false)
    (w_FnJournalSteps.l1000008 k 0 more d1.snd d0.fst.fst d0.fst.snd.fst d0.fst.snd.snd.fst d0.fst.snd.snd.snd.snd.snd.fst d0.fst.snd.snd.snd.snd.snd.snd d0.fst.snd.snd.snd.fst d0.fst.snd.snd.snd.snd.fst d0.snd.fst d0.snd.snd.fst d0.snd.snd.snd d1.fst.fst d1.fst.snd.fst d1.fst.snd.snd.fst d1.fst.snd.snd.snd.snd.snd.fst d1.fst.snd.snd.snd.snd.snd.snd d1.fst.snd.snd.snd.fst d1.fst.snd.snd.snd.snd.fst)))) := (opq_eq _).trans (by kernel_rfl)
end Go.Proofs.YtcddcnnbhbffmaaGreat
