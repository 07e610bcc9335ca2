/- The functions that the statement reaches, as the executor tells them; their contracts. No condition. -/
import Derived.Test.YtgnijlfakjjfcaaGreatE36
import Derived.Test.YtgnijlfakjjfcaaGreatProg
import Derived.Test.YtgnijlfakjjfcaaGreatR1
namespace Go.Proofs.YtgnijlfakjjfcaaGreat
open Go Go.Proofs.YtgnijlfakjjfcaaGreatE
set_option linter.unusedVariables false
set_option maxRecDepth 100000
noncomputable abbrev Try.prog := Tryz.prog
abbrev s_l1In.s : Sig := ⟨24, [], [.val, .val, .val], [.one (.int .i64), .one (.int .i64), .one (.int .i64)], [.one .bool], [], []⟩
noncomputable def s_l1In.C (k : Nat) : List (Nat × Ctr) := []
noncomputable def s_l1In.f (k : Nat) (n : Int) (lo : Int) (hi : Int) : Option Bool := opq (s_l1In.s.run Try.prog (s_l1In.C k) k (n, lo, hi))
theorem s_l1In.ok (k : Nat) : CtrOk Try.prog 24 (s_l1In.s.ctr (fun x => s_l1In.f k x.1 x.2.1 x.2.2)) := sig_ok s_l1In.s .nil (by kernel_rfl) fun _ => opq_eq _
theorem s_l1In.f_eq (k : Nat) (n : Int) (lo : Int) (hi : Int) : s_l1In.f k n lo hi =
 cn (decide (lo ≤ n))
 (some (decide (n ≤ hi)))
 (some false) := (opq_eq _).trans (by kernel_rfl)
abbrev s_NewDisk.s : Sig := ⟨25, [], [.val], [.one (.int .i64)], [.agg [.own 9 .str, .own 9 .str, .own 4 .bool], .one .bool], [], []⟩
noncomputable def s_NewDisk.C (k : Nat) : List (Nat × Ctr) := [(24, s_l1In.s.ctr (fun x => s_l1In.f k x.1 x.2.1 x.2.2))]
noncomputable def s_NewDisk.f (k : Nat) (sectors : Int) : Option ((List ByteArray × List ByteArray × List Bool) × Bool) := opq (s_NewDisk.s.run Try.prog (s_NewDisk.C k) k sectors)
theorem s_NewDisk.ok (k : Nat) : CtrOk Try.prog 25 (s_NewDisk.s.ctr (fun x => s_NewDisk.f k x)) := sig_ok s_NewDisk.s (.cons (s_l1In.ok k) .nil) (by kernel_rfl) fun _ => opq_eq _
theorem s_NewDisk.f_eq (k : Nat) (sectors : Int) : s_NewDisk.f k sectors =
 (s_l1In.f k sectors (1 : Int) (24 : Int)).bind fun d0 =>
 cn (!d0)
 (some ((([], [], []), false)))
 (both
  (gd (mkOk sectors sectors (Try.prog.bytesOf (9 : Nat)))
   (both
    (gd (mkOk sectors sectors (Try.prog.bytesOf (9 : Nat)))
     (gd (mkOk sectors sectors (Try.prog.bytesOf (4 : Nat)))
      (some (((List.replicate sectors.toNat ByteArray.empty, List.replicate sectors.toNat ByteArray.empty, List.replicate sectors.toNat false), true)))))
    (gd (mkOk sectors sectors (Try.prog.bytesOf (4 : Nat)))
     (gd (mkOk sectors sectors (Try.prog.bytesOf (9 : Nat)))
      (some (((List.replicate sectors.toNat ByteArray.empty, List.replicate sectors.toNat ByteArray.empty, List.replicate sectors.toNat false), true)))))))
  (both
   (gd (mkOk sectors sectors (Try.prog.bytesOf (9 : Nat)))
    (both
     (gd (mkOk sectors sectors (Try.prog.bytesOf (9 : Nat)))
      (gd (mkOk sectors sectors (Try.prog.bytesOf (4 : Nat)))
       (some (((List.replicate sectors.toNat ByteArray.empty, List.replicate sectors.toNat ByteArray.empty, List.replicate sectors.toNat false), true)))))
     (gd (mkOk sectors sectors (Try.prog.bytesOf (4 : Nat)))
      (gd (mkOk sectors sectors (Try.prog.bytesOf (9 : Nat)))
       (some (((List.replicate sectors.toNat ByteArray.empty, List.replicate sectors.toNat ByteArray.empty, List.replicate sectors.toNat false), true)))))))
   (gd (mkOk sectors sectors (Try.prog.bytesOf (4 : Nat)))
    (dup
     (gd (mkOk sectors sectors (Try.prog.bytesOf (9 : Nat)))
      (gd (mkOk sectors sectors (Try.prog.bytesOf (9 : Nat)))
       (some (((List.replicate sectors.toNat ByteArray.empty, List.replicate sectors.toNat ByteArray.empty, List.replicate sectors.toNat false), true))))))))) := (opq_eq _).trans (by kernel_rfl)
abbrev s_GoodDisk.s : Sig := ⟨54, [], [.val], [.agg [.row 9 .str, .row 9 .str, .row 4 .bool]], [.one .bool], [], [(0, [(1,false),(27,false),(28,false)])]⟩
noncomputable def s_GoodDisk.C (k : Nat) : List (Nat × Ctr) := [(24, s_l1In.s.ctr (fun x => s_l1In.f k x.1 x.2.1 x.2.2))]
noncomputable def s_GoodDisk.f (k : Nat) (d_Plate : List ByteArray) (d_Held : List ByteArray) (d_Bad : List Bool) : Option Bool := opq (s_GoodDisk.s.run Try.prog (s_GoodDisk.C k) k (d_Plate, d_Held, d_Bad))
theorem s_GoodDisk.ok (k : Nat) : CtrOk Try.prog 54 (s_GoodDisk.s.ctr (fun x => s_GoodDisk.f k x.1 x.2.1 x.2.2)) := sig_ok s_GoodDisk.s (.cons (s_l1In.ok k) .nil) (by kernel_rfl) fun _ => opq_eq _
noncomputable def s_GoodDisk.l0 (k : Nat) (m : Nat) (t27 : Int) (t28 : Int) (h1 : List ByteArray) (h1_ : List ByteArray) (h1__ : List Bool) : Option Bool := s_GoodDisk.s.head Try.prog (s_GoodDisk.C k) k 1 0 [] m [(1, AV.ptr 1 0 0), (27, AV.int IntKind.i64 t27), (28, AV.int IntKind.i64 t28)] [Root.dead, Root.box 26 [AV.row 9 Kind.str h1, AV.row 9 Kind.str h1_, AV.row 4 Kind.bool h1__]]
theorem s_GoodDisk.l0_z (k : Nat) (t27 : Int) (t28 : Int) (h1 : List ByteArray) (h1_ : List ByteArray) (h1__ : List Bool) : s_GoodDisk.l0 k 0 t27 t28 h1 h1_ h1__ = none := by kernel_rfl
theorem s_GoodDisk.l0_s (k : Nat) (m : Nat) (t27 : Int) (t28 : Int) (h1 : List ByteArray) (h1_ : List ByteArray) (h1__ : List Bool) : s_GoodDisk.l0 k (m + 1) t27 t28 h1 h1_ h1__ =
 cn (decide (t28 < t27))
 (gd (inb t28 h1.length)
  (cn (decide ((28 : Int) < (↑(getAt ByteArray.empty h1 t28.toNat).size : Int)))
   (some false)
   (gd (inb t28 h1_.length)
    (cn (decide ((28 : Int) < (↑(getAt ByteArray.empty h1_ t28.toNat).size : Int)))
     (some false)
     (gd (inb t28 h1__.length)
      (cn (getAt false h1__ t28.toNat)
       (gd (inb t28 h1_.length)
        (cn (!decide ((getAt ByteArray.empty h1_ t28.toNat).toList = ByteArray.empty.toList))
         (some false)
         (s_GoodDisk.l0 k m t27 (IntKind.i64.wrap (t28 + (1 : Int))) h1 h1_ h1__)))
       (s_GoodDisk.l0 k m t27 (IntKind.i64.wrap (t28 + (1 : Int))) h1 h1_ h1__)))))))
 (some true) := by kernel_rfl
theorem s_GoodDisk.f_eq (k : Nat) (d_Plate : List ByteArray) (d_Held : List ByteArray) (d_Bad : List Bool) : s_GoodDisk.f k d_Plate d_Held d_Bad =
 (s_l1In.f k (↑d_Plate.length : Int) (1 : Int) (24 : Int)).bind fun d0 =>
 cn (!d0)
 (some false)
 (cn (!decide ((↑d_Held.length : Int) = (↑d_Plate.length : Int)))
  (some false)
  (cn (!decide ((↑d_Bad.length : Int) = (↑d_Plate.length : Int)))
   (some false)
   (s_GoodDisk.l0 k k ((↑d_Plate.length : Int)) ((0 : Int)) d_Plate d_Held d_Bad))) := (opq_eq _).trans (by kernel_rfl)
abbrev s_l8Fits.s : Sig := ⟨55, [], [.val, .val], [.agg [.row 9 .str, .row 9 .str, .row 4 .bool], .one (.int .i64)], [.one .bool], [], []⟩
noncomputable def s_l8Fits.C (k : Nat) : List (Nat × Ctr) := []
noncomputable def s_l8Fits.f (k : Nat) (d_Plate : List ByteArray) (d_Held : List ByteArray) (d_Bad : List Bool) (at_ : Int) : Option Bool := opq (s_l8Fits.s.run Try.prog (s_l8Fits.C k) k ((d_Plate, d_Held, d_Bad), at_))
theorem s_l8Fits.ok (k : Nat) : CtrOk Try.prog 55 (s_l8Fits.s.ctr (fun x => s_l8Fits.f k x.1.1 x.1.2.1 x.1.2.2 x.2)) := sig_ok s_l8Fits.s .nil (by kernel_rfl) fun _ => opq_eq _
theorem s_l8Fits.f_eq (k : Nat) (d_Plate : List ByteArray) (d_Held : List ByteArray) (d_Bad : List Bool) (at_ : Int) : s_l8Fits.f k d_Plate d_Held d_Bad at_ =
 cn (decide ((0 : Int) ≤ at_))
 (some (decide (at_ ≤ IntKind.i64.wrap ((↑d_Plate.length : Int) - (5 : Int)))))
 (some false) := (opq_eq _).trans (by kernel_rfl)
abbrev s_l7Own.s : Sig := ⟨28, [], [.val], [.agg [.row 9 .str, .row 9 .str, .row 4 .bool]], [.agg [.own 9 .str, .own 9 .str, .own 4 .bool]], [], []⟩
noncomputable def s_l7Own.C (k : Nat) : List (Nat × Ctr) := []
noncomputable def s_l7Own.f (k : Nat) (d_Plate : List ByteArray) (d_Held : List ByteArray) (d_Bad : List Bool) : Option (List ByteArray × List ByteArray × List Bool) := opq (s_l7Own.s.run Try.prog (s_l7Own.C k) k (d_Plate, d_Held, d_Bad))
theorem s_l7Own.ok (k : Nat) : CtrOk Try.prog 28 (s_l7Own.s.ctr (fun x => s_l7Own.f k x.1 x.2.1 x.2.2)) := sig_ok s_l7Own.s .nil (by kernel_rfl) fun _ => opq_eq _
theorem s_l7Own.f_eq (k : Nat) (d_Plate : List ByteArray) (d_Held : List ByteArray) (d_Bad : List Bool) : s_l7Own.f k d_Plate d_Held d_Bad =
 both
 (both
  (gd (appOk ((0 : Nat) + d_Plate.length) (Try.prog.bytesOf (9 : Nat)))
   (both
    (dup
     (gd (appOk ((0 : Nat) + d_Held.length) (Try.prog.bytesOf (9 : Nat)))
      (gd (appOk ((0 : Nat) + d_Bad.length) (Try.prog.bytesOf (4 : Nat)))
       (some (([] ++ d_Plate, [] ++ d_Held, [] ++ d_Bad))))))
    (gd (appOk ((0 : Nat) + d_Held.length) (Try.prog.bytesOf (9 : Nat)))
     (gd (appOk ((0 : Nat) + d_Bad.length) (Try.prog.bytesOf (4 : Nat)))
      (some (([] ++ d_Plate, [] ++ d_Held, [] ++ d_Bad)))))))
  (both
   (both
    (gd (appOk ((0 : Nat) + d_Plate.length) (Try.prog.bytesOf (9 : Nat)))
     (dup
      (gd (appOk ((0 : Nat) + d_Held.length) (Try.prog.bytesOf (9 : Nat)))
       (gd (appOk ((0 : Nat) + d_Bad.length) (Try.prog.bytesOf (4 : Nat)))
        (some (([] ++ d_Plate, [] ++ d_Held, [] ++ d_Bad)))))))
    (gd (appOk ((0 : Nat) + d_Plate.length) (Try.prog.bytesOf (9 : Nat)))
     (gd (appOk ((0 : Nat) + d_Held.length) (Try.prog.bytesOf (9 : Nat)))
      (gd (appOk ((0 : Nat) + d_Bad.length) (Try.prog.bytesOf (4 : Nat)))
       (some (([] ++ d_Plate, [] ++ d_Held, [] ++ d_Bad)))))))
   (dup
    (gd (appOk ((0 : Nat) + d_Plate.length) (Try.prog.bytesOf (9 : Nat)))
     (gd (appOk ((0 : Nat) + d_Held.length) (Try.prog.bytesOf (9 : Nat)))
      (gd (appOk ((0 : Nat) + d_Bad.length) (Try.prog.bytesOf (4 : Nat)))
       (some (([] ++ d_Plate, [] ++ d_Held, [] ++ d_Bad)))))))))
 (both
  (both
   (both
    (gd (appOk ((0 : Nat) + d_Plate.length) (Try.prog.bytesOf (9 : Nat)))
     (dup
      (gd (appOk ((0 : Nat) + d_Held.length) (Try.prog.bytesOf (9 : Nat)))
       (gd (appOk ((0 : Nat) + d_Bad.length) (Try.prog.bytesOf (4 : Nat)))
        (some (([] ++ d_Plate, [] ++ d_Held, [] ++ d_Bad)))))))
    (gd (appOk ((0 : Nat) + d_Plate.length) (Try.prog.bytesOf (9 : Nat)))
     (gd (appOk ((0 : Nat) + d_Held.length) (Try.prog.bytesOf (9 : Nat)))
      (gd (appOk ((0 : Nat) + d_Bad.length) (Try.prog.bytesOf (4 : Nat)))
       (some (([] ++ d_Plate, [] ++ d_Held, [] ++ d_Bad)))))))
   (gd (appOk ((0 : Nat) + d_Plate.length) (Try.prog.bytesOf (9 : Nat)))
    (gd (appOk ((0 : Nat) + d_Held.length) (Try.prog.bytesOf (9 : Nat)))
     (gd (appOk ((0 : Nat) + d_Bad.length) (Try.prog.bytesOf (4 : Nat)))
      (some (([] ++ d_Plate, [] ++ d_Held, [] ++ d_Bad)))))))
  (both
   (dup
    (gd (appOk ((0 : Nat) + d_Plate.length) (Try.prog.bytesOf (9 : Nat)))
     (gd (appOk ((0 : Nat) + d_Held.length) (Try.prog.bytesOf (9 : Nat)))
      (gd (appOk ((0 : Nat) + d_Bad.length) (Try.prog.bytesOf (4 : Nat)))
       (some (([] ++ d_Plate, [] ++ d_Held, [] ++ d_Bad)))))))
   (gd (appOk ((0 : Nat) + d_Plate.length) (Try.prog.bytesOf (9 : Nat)))
    (gd (appOk ((0 : Nat) + d_Held.length) (Try.prog.bytesOf (9 : Nat)))
     (gd (appOk ((0 : Nat) + d_Bad.length) (Try.prog.bytesOf (4 : Nat)))
      (some (([] ++ d_Plate, [] ++ d_Held, [] ++ d_Bad)))))))) := (opq_eq _).trans (by kernel_rfl)
abbrev s_l6Bytes.s : Sig := ⟨74, [], [.val, .val], [.one (.int .i64), .one (.int .i64)], [.one .str], [], [(0, [(0,false),(5,true),(6,false)])]⟩
noncomputable def s_l6Bytes.C (k : Nat) : List (Nat × Ctr) := []
noncomputable def s_l6Bytes.f (k : Nat) (n : Int) (many : Int) : Option ByteArray := opq (s_l6Bytes.s.run Try.prog (s_l6Bytes.C k) k (n, many))
theorem s_l6Bytes.ok (k : Nat) : CtrOk Try.prog 74 (s_l6Bytes.s.ctr (fun x => s_l6Bytes.f k x.1 x.2)) := sig_ok s_l6Bytes.s .nil (by kernel_rfl) fun _ => opq_eq _
noncomputable def s_l6Bytes.l0 (k : Nat) (m : Nat) (n0 : Int) (i6 : Int) (h1 : List Int) : Option ByteArray := s_l6Bytes.s.head Try.prog (s_l6Bytes.C k) k 1 0 [] m [(0, AV.int IntKind.i64 n0), (5, AV.ref 1), (6, AV.int IntKind.i64 i6)] [Root.dead, Root.rows 5 (Kind.int IntKind.u8) h1]
theorem s_l6Bytes.l0_z (k : Nat) (n0 : Int) (i6 : Int) (h1 : List Int) : s_l6Bytes.l0 k 0 n0 i6 h1 = none := by kernel_rfl
theorem s_l6Bytes.l0_s (k : Nat) (m : Nat) (n0 : Int) (i6 : Int) (h1 : List Int) : s_l6Bytes.l0 k (m + 1) n0 i6 h1 =
 cn (decide ((0 : Int) ≤ i6))
 (gd (inb i6 h1.length)
  (s_l6Bytes.l0 k m (n0.fdiv ((2 : Int) ^ (8 : Nat))) (IntKind.i64.wrap (i6 - (1 : Int))) (h1.set i6.toNat (IntKind.u8.wrap n0))))
 (some (strOfNums h1)) := by kernel_rfl
theorem s_l6Bytes.f_eq (k : Nat) (n : Int) (many : Int) : s_l6Bytes.f k n many =
 gd (mkOk many many (Try.prog.bytesOf (5 : Nat)))
 (s_l6Bytes.l0 k k n (IntKind.i64.wrap (many - (1 : Int))) (List.replicate many.toNat (0 : Int))) := (opq_eq _).trans (by kernel_rfl)
abbrev s_l2Identity.s : Sig := ⟨113, [], [.val], [.one (.int .i64)], [.one (.own 27 (.sl 3 (.int .i64)))], [], [(0, [(0,false),(3,true),(4,false)])]⟩
noncomputable def s_l2Identity.C (k : Nat) : List (Nat × Ctr) := []
noncomputable def s_l2Identity.f (k : Nat) (n : Int) : Option (List (List Int)) := opq (s_l2Identity.s.run Try.prog (s_l2Identity.C k) k n)
theorem s_l2Identity.ok (k : Nat) : CtrOk Try.prog 113 (s_l2Identity.s.ctr (fun x => s_l2Identity.f k x)) := sig_ok s_l2Identity.s .nil (by kernel_rfl) fun _ => opq_eq _
noncomputable def s_l2Identity.l0 (k : Nat) (m : Nat) (n0 : Int) (k4 : Int) (h1 : List (List Int)) : Option (List (List Int)) := s_l2Identity.s.head Try.prog (s_l2Identity.C k) k 1 0 [] m [(0, AV.int IntKind.i64 n0), (3, AV.ref 1), (4, AV.int IntKind.i64 k4)] [Root.dead, Root.rows 27 (Kind.sl 3 (Kind.int IntKind.i64)) h1]
theorem s_l2Identity.l0_z (k : Nat) (n0 : Int) (k4 : Int) (h1 : List (List Int)) : s_l2Identity.l0 k 0 n0 k4 h1 = none := by kernel_rfl
theorem s_l2Identity.l0_s (k : Nat) (m : Nat) (n0 : Int) (k4 : Int) (h1 : List (List Int)) : s_l2Identity.l0 k (m + 1) n0 k4 h1 =
 cn (decide (k4 < n0))
 (gd (mkOk n0 n0 (Try.prog.bytesOf (3 : Nat)))
  (gd (inb k4 (List.replicate n0.toNat (0 : Int)).length)
   (gd (appOk (h1.length + (1 : Nat)) (Try.prog.bytesOf (27 : Nat)))
    (s_l2Identity.l0 k m n0 (IntKind.i64.wrap (k4 + (1 : Int))) (h1 ++ [(List.replicate n0.toNat (0 : Int)).set k4.toNat (1 : Int)])))))
 (some h1) := by kernel_rfl
theorem s_l2Identity.f_eq (k : Nat) (n : Int) : s_l2Identity.f k n =
 s_l2Identity.l0 k k n ((0 : Int)) ([]) := (opq_eq _).trans (by kernel_rfl)
abbrev s_l1Mul.s : Sig := ⟨128, [], [.val, .val], [.one (.int .i64), .one (.int .i64)], [.one (.int .i64)], [], [(0, [(0,false),(1,false),(5,false)])]⟩
noncomputable def s_l1Mul.C (k : Nat) : List (Nat × Ctr) := []
noncomputable def s_l1Mul.f (k : Nat) (a : Int) (b : Int) : Option Int := opq (s_l1Mul.s.run Try.prog (s_l1Mul.C k) k (a, b))
theorem s_l1Mul.ok (k : Nat) : CtrOk Try.prog 128 (s_l1Mul.s.ctr (fun x => s_l1Mul.f k x.1 x.2)) := sig_ok s_l1Mul.s .nil (by kernel_rfl) fun _ => opq_eq _
noncomputable def s_l1Mul.l0 (k : Nat) (m : Nat) (a0 : Int) (b1 : Int) (out5 : Int) : Option Int := s_l1Mul.s.head Try.prog (s_l1Mul.C k) k 1 0 [] m [(0, AV.int IntKind.i64 a0), (1, AV.int IntKind.i64 b1), (5, AV.int IntKind.i64 out5)] [Root.dead]
theorem s_l1Mul.l0_z (k : Nat) (a0 : Int) (b1 : Int) (out5 : Int) : s_l1Mul.l0 k 0 a0 b1 out5 = none := by kernel_rfl
theorem s_l1Mul.l0_s (k : Nat) (m : Nat) (a0 : Int) (b1 : Int) (out5 : Int) : s_l1Mul.l0 k (m + 1) a0 b1 out5 =
 cn (decide ((0 : Int) < b1))
 (cn (decide (IntKind.i64.wrap (↑(BitVec.ofInt (64 : Nat) b1 &&& BitVec.ofInt (64 : Nat) (1 : Int)).toNat : Int) = (1 : Int)))
  (cn (decide ((255 : Int) < IntKind.i64.wrap (a0 * (2 : Int) ^ (1 : Nat))))
   (s_l1Mul.l0 k m (IntKind.i64.wrap (↑(BitVec.ofInt (64 : Nat) (IntKind.i64.wrap (a0 * (2 : Int) ^ (1 : Nat))) ^^^ BitVec.ofInt (64 : Nat) (285 : Int)).toNat : Int)) (b1.fdiv ((2 : Int) ^ (1 : Nat))) (IntKind.i64.wrap (↑(BitVec.ofInt (64 : Nat) out5 ^^^ BitVec.ofInt (64 : Nat) a0).toNat : Int)))
   (s_l1Mul.l0 k m (IntKind.i64.wrap (a0 * (2 : Int) ^ (1 : Nat))) (b1.fdiv ((2 : Int) ^ (1 : Nat))) (IntKind.i64.wrap (↑(BitVec.ofInt (64 : Nat) out5 ^^^ BitVec.ofInt (64 : Nat) a0).toNat : Int))))
  (cn (decide ((255 : Int) < IntKind.i64.wrap (a0 * (2 : Int) ^ (1 : Nat))))
   (s_l1Mul.l0 k m (IntKind.i64.wrap (↑(BitVec.ofInt (64 : Nat) (IntKind.i64.wrap (a0 * (2 : Int) ^ (1 : Nat))) ^^^ BitVec.ofInt (64 : Nat) (285 : Int)).toNat : Int)) (b1.fdiv ((2 : Int) ^ (1 : Nat))) out5)
   (s_l1Mul.l0 k m (IntKind.i64.wrap (a0 * (2 : Int) ^ (1 : Nat))) (b1.fdiv ((2 : Int) ^ (1 : Nat))) out5)))
 (some out5) := by kernel_rfl
theorem s_l1Mul.f_eq (k : Nat) (a : Int) (b : Int) : s_l1Mul.f k a b =
 s_l1Mul.l0 k k a b ((0 : Int)) := (opq_eq _).trans (by kernel_rfl)
abbrev s_l1Pow.s : Sig := ⟨133, [], [.val, .val], [.one (.int .i64), .one (.int .i64)], [.one (.int .i64)], [], [(0, [(0,false),(1,false),(5,false)])]⟩
noncomputable def s_l1Pow.C (k : Nat) : List (Nat × Ctr) := [(128, s_l1Mul.s.ctr (fun x => s_l1Mul.f k x.1 x.2))]
noncomputable def s_l1Pow.f (k : Nat) (a : Int) (n : Int) : Option Int := opq (s_l1Pow.s.run Try.prog (s_l1Pow.C k) k (a, n))
theorem s_l1Pow.ok (k : Nat) : CtrOk Try.prog 133 (s_l1Pow.s.ctr (fun x => s_l1Pow.f k x.1 x.2)) := sig_ok s_l1Pow.s (.cons (s_l1Mul.ok k) .nil) (by kernel_rfl) fun _ => opq_eq _
noncomputable def s_l1Pow.l0 (k : Nat) (m : Nat) (a0 : Int) (n1 : Int) (out5 : Int) : Option Int := s_l1Pow.s.head Try.prog (s_l1Pow.C k) k 1 0 [] m [(0, AV.int IntKind.i64 a0), (1, AV.int IntKind.i64 n1), (5, AV.int IntKind.i64 out5)] [Root.dead]
theorem s_l1Pow.l0_z (k : Nat) (a0 : Int) (n1 : Int) (out5 : Int) : s_l1Pow.l0 k 0 a0 n1 out5 = none := by kernel_rfl
theorem s_l1Pow.l0_s (k : Nat) (m : Nat) (a0 : Int) (n1 : Int) (out5 : Int) : s_l1Pow.l0 k (m + 1) a0 n1 out5 =
 cn (decide ((0 : Int) < n1))
 (cn (decide (IntKind.i64.wrap (↑(BitVec.ofInt (64 : Nat) n1 &&& BitVec.ofInt (64 : Nat) (1 : Int)).toNat : Int) = (1 : Int)))
  ((s_l1Mul.f k out5 a0).bind fun d0 =>
   (s_l1Mul.f k a0 a0).bind fun d1 =>
   s_l1Pow.l0 k m d1 (n1.fdiv ((2 : Int) ^ (1 : Nat))) d0)
  ((s_l1Mul.f k a0 a0).bind fun d0 =>
   s_l1Pow.l0 k m d0 (n1.fdiv ((2 : Int) ^ (1 : Nat))) out5))
 (some out5) := by kernel_rfl
theorem s_l1Pow.f_eq (k : Nat) (a : Int) (n : Int) : s_l1Pow.f k a n =
 s_l1Pow.l0 k k a n ((1 : Int)) := (opq_eq _).trans (by kernel_rfl)
abbrev s_l1Div.s : Sig := ⟨129, [], [.val, .val], [.one (.int .i64), .one (.int .i64)], [.one (.int .i64)], [], []⟩
noncomputable def s_l1Div.C (k : Nat) : List (Nat × Ctr) := [(128, s_l1Mul.s.ctr (fun x => s_l1Mul.f k x.1 x.2)), (133, s_l1Pow.s.ctr (fun x => s_l1Pow.f k x.1 x.2))]
noncomputable def s_l1Div.f (k : Nat) (a : Int) (b : Int) : Option Int := opq (s_l1Div.s.run Try.prog (s_l1Div.C k) k (a, b))
theorem s_l1Div.ok (k : Nat) : CtrOk Try.prog 129 (s_l1Div.s.ctr (fun x => s_l1Div.f k x.1 x.2)) := sig_ok s_l1Div.s (.cons (s_l1Mul.ok k) (.cons (s_l1Pow.ok k) .nil)) (by kernel_rfl) fun _ => opq_eq _
theorem s_l1Div.f_eq (k : Nat) (a : Int) (b : Int) : s_l1Div.f k a b =
 (s_l1Pow.f k b (254 : Int)).bind fun d0 =>
 (s_l1Mul.f k a d0).bind fun d1 =>
 some d1 := (opq_eq _).trans (by kernel_rfl)
abbrev s_l2Cauchy.s : Sig := ⟨114, [], [.val, .val], [.one (.row 3 (.int .i64)), .one (.row 3 (.int .i64))], [.one (.own 27 (.sl 3 (.int .i64)))], [], [(2, [(1,false),(5,true),(7,false),(8,true),(11,true),(12,false),(13,false),(17,true),(18,false),(19,false)]), (0, [(1,false),(5,true),(11,true),(12,false),(13,false)])]⟩
noncomputable def s_l2Cauchy.C (k : Nat) : List (Nat × Ctr) := [(129, s_l1Div.s.ctr (fun x => s_l1Div.f k x.1 x.2))]
noncomputable def s_l2Cauchy.f (k : Nat) (x : List Int) (y : List Int) : Option (List (List Int)) := opq (s_l2Cauchy.s.run Try.prog (s_l2Cauchy.C k) k (x, y))
theorem s_l2Cauchy.ok (k : Nat) : CtrOk Try.prog 114 (s_l2Cauchy.s.ctr (fun x => s_l2Cauchy.f k x.1 x.2)) := sig_ok s_l2Cauchy.s (.cons (s_l1Div.ok k) .nil) (by kernel_rfl) fun _ => opq_eq _
noncomputable def s_l2Cauchy.l0 (k : Nat) (m : Nat) (y1 : List Int) (t11 : List Int) (t12 : Int) (t13 : Int) (h1 : List (List Int)) : Option (List (List Int)) := s_l2Cauchy.s.head Try.prog (s_l2Cauchy.C k) k 1 0 [] m [(1, AV.row 3 (Kind.int IntKind.i64) y1), (5, AV.ref 1), (11, AV.row 3 (Kind.int IntKind.i64) t11), (12, AV.int IntKind.i64 t12), (13, AV.int IntKind.i64 t13)] [Root.dead, Root.rows 27 (Kind.sl 3 (Kind.int IntKind.i64)) h1]
noncomputable def s_l2Cauchy.l2 (k : Nat) (n0 : Nat) (m : Nat) (y1 : List Int) (a7 : Int) (t11 : List Int) (t12 : Int) (t13 : Int) (t17 : List Int) (t18 : Int) (t19 : Int) (h1 : List (List Int)) (h2 : List Int) : Option (List (List Int)) := s_l2Cauchy.s.head Try.prog (s_l2Cauchy.C k) k 1 2 [n0] m [(1, AV.row 3 (Kind.int IntKind.i64) y1), (5, AV.ref 1), (7, AV.int IntKind.i64 a7), (8, AV.ref 2), (11, AV.row 3 (Kind.int IntKind.i64) t11), (12, AV.int IntKind.i64 t12), (13, AV.int IntKind.i64 t13), (17, AV.row 3 (Kind.int IntKind.i64) t17), (18, AV.int IntKind.i64 t18), (19, AV.int IntKind.i64 t19)] [Root.dead, Root.rows 27 (Kind.sl 3 (Kind.int IntKind.i64)) h1, Root.rows 3 (Kind.int IntKind.i64) h2]
theorem s_l2Cauchy.l0_z (k : Nat) (y1 : List Int) (t11 : List Int) (t12 : Int) (t13 : Int) (h1 : List (List Int)) : s_l2Cauchy.l0 k 0 y1 t11 t12 t13 h1 = none := by kernel_rfl
theorem s_l2Cauchy.l0_s (k : Nat) (m : Nat) (y1 : List Int) (t11 : List Int) (t12 : Int) (t13 : Int) (h1 : List (List Int)) : s_l2Cauchy.l0 k (m + 1) y1 t11 t12 t13 h1 =
 cn (decide (t13 < t12))
 (gd (inb t13 t11.length)
  (s_l2Cauchy.l2 k m k y1 (getAt (0 : Int) t11 t13.toNat) t11 t12 t13 y1 ((↑y1.length : Int)) ((0 : Int)) h1 ([])))
 (some h1) := by kernel_rfl
theorem s_l2Cauchy.l2_z (k : Nat) (n0 : Nat) (y1 : List Int) (a7 : Int) (t11 : List Int) (t12 : Int) (t13 : Int) (t17 : List Int) (t18 : Int) (t19 : Int) (h1 : List (List Int)) (h2 : List Int) : s_l2Cauchy.l2 k n0 0 y1 a7 t11 t12 t13 t17 t18 t19 h1 h2 = none := by kernel_rfl
theorem s_l2Cauchy.l2_s (k : Nat) (n0 : Nat) (m : Nat) (y1 : List Int) (a7 : Int) (t11 : List Int) (t12 : Int) (t13 : Int) (t17 : List Int) (t18 : Int) (t19 : Int) (h1 : List (List Int)) (h2 : List Int) : s_l2Cauchy.l2 k n0 (m + 1) y1 a7 t11 t12 t13 t17 t18 t19 h1 h2 =
 cn (decide (t19 < t18))
 (gd (inb t19 t17.length)
  ((s_l1Div.f k (1 : Int) (IntKind.i64.wrap (↑(BitVec.ofInt (64 : Nat) a7 ^^^ BitVec.ofInt (64 : Nat) (getAt (0 : Int) t17 t19.toNat)).toNat : Int))).bind fun d0 =>
   gd (appOk (h2.length + [d0].length) (Try.prog.bytesOf (3 : Nat)))
   (s_l2Cauchy.l2 k n0 m y1 a7 t11 t12 t13 t17 t18 (IntKind.i64.wrap (t19 + (1 : Int))) h1 (h2 ++ [d0]))))
 (gd (appOk (h1.length + (1 : Nat)) (Try.prog.bytesOf (27 : Nat)))
  (s_l2Cauchy.l0 k n0 y1 t11 t12 (IntKind.i64.wrap (t13 + (1 : Int))) (h1 ++ [h2]))) := by kernel_rfl
theorem s_l2Cauchy.f_eq (k : Nat) (x : List Int) (y : List Int) : s_l2Cauchy.f k x y =
 s_l2Cauchy.l0 k k y x ((↑x.length : Int)) ((0 : Int)) ([]) := (opq_eq _).trans (by kernel_rfl)
abbrev s_l3Matrix.s : Sig := ⟨92, [], [.val, .val], [.one (.int .i64), .one (.int .i64)], [.one (.own 27 (.sl 3 (.int .i64)))], [], [(2, [(0,false),(1,false),(5,true),(6,true),(8,false)]), (0, [(0,false),(1,false),(5,true),(6,true),(7,false)])]⟩
noncomputable def s_l3Matrix.C (k : Nat) : List (Nat × Ctr) := [(113, s_l2Identity.s.ctr (fun x => s_l2Identity.f k x)), (114, s_l2Cauchy.s.ctr (fun x => s_l2Cauchy.f k x.1 x.2))]
noncomputable def s_l3Matrix.f (k : Nat) (data : Int) (parity : Int) : Option (List (List Int)) := opq (s_l3Matrix.s.run Try.prog (s_l3Matrix.C k) k (data, parity))
theorem s_l3Matrix.ok (k : Nat) : CtrOk Try.prog 92 (s_l3Matrix.s.ctr (fun x => s_l3Matrix.f k x.1 x.2)) := sig_ok s_l3Matrix.s (.cons (s_l2Identity.ok k) (.cons (s_l2Cauchy.ok k) .nil)) (by kernel_rfl) fun _ => opq_eq _
noncomputable def s_l3Matrix.l0 (k : Nat) (m : Nat) (data0 : Int) (parity1 : Int) (k7 : Int) (h1 : List Int) (h2 : List Int) : Option (List (List Int)) := s_l3Matrix.s.head Try.prog (s_l3Matrix.C k) k 1 0 [] m [(0, AV.int IntKind.i64 data0), (1, AV.int IntKind.i64 parity1), (5, AV.ref 1), (6, AV.ref 2), (7, AV.int IntKind.i64 k7)] [Root.dead, Root.rows 3 (Kind.int IntKind.i64) h1, Root.rows 3 (Kind.int IntKind.i64) h2]
noncomputable def s_l3Matrix.l2 (k : Nat) (m : Nat) (data0 : Int) (parity1 : Int) (k8 : Int) (h1 : List Int) (h2 : List Int) : Option (List (List Int)) := s_l3Matrix.s.head Try.prog (s_l3Matrix.C k) k 1 2 [] m [(0, AV.int IntKind.i64 data0), (1, AV.int IntKind.i64 parity1), (5, AV.ref 1), (6, AV.ref 2), (8, AV.int IntKind.i64 k8)] [Root.dead, Root.rows 3 (Kind.int IntKind.i64) h1, Root.rows 3 (Kind.int IntKind.i64) h2]
theorem s_l3Matrix.l0_z (k : Nat) (data0 : Int) (parity1 : Int) (k7 : Int) (h1 : List Int) (h2 : List Int) : s_l3Matrix.l0 k 0 data0 parity1 k7 h1 h2 = none := by kernel_rfl
theorem s_l3Matrix.l0_s (k : Nat) (m : Nat) (data0 : Int) (parity1 : Int) (k7 : Int) (h1 : List Int) (h2 : List Int) : s_l3Matrix.l0 k (m + 1) data0 parity1 k7 h1 h2 =
 cn (decide (k7 < parity1))
 (gd (appOk (h1.length + [k7].length) (Try.prog.bytesOf (3 : Nat)))
  (s_l3Matrix.l0 k m data0 parity1 (IntKind.i64.wrap (k7 + (1 : Int))) (h1 ++ [k7]) h2))
 (s_l3Matrix.l2 k k data0 parity1 ((0 : Int)) h1 h2) := by kernel_rfl
theorem s_l3Matrix.l2_z (k : Nat) (data0 : Int) (parity1 : Int) (k8 : Int) (h1 : List Int) (h2 : List Int) : s_l3Matrix.l2 k 0 data0 parity1 k8 h1 h2 = none := by kernel_rfl
theorem s_l3Matrix.l2_s (k : Nat) (m : Nat) (data0 : Int) (parity1 : Int) (k8 : Int) (h1 : List Int) (h2 : List Int) : s_l3Matrix.l2 k (m + 1) data0 parity1 k8 h1 h2 =
 cn (decide (k8 < data0))
 (gd (appOk (h2.length + [IntKind.i64.wrap (parity1 + k8)].length) (Try.prog.bytesOf (3 : Nat)))
  (s_l3Matrix.l2 k m data0 parity1 (IntKind.i64.wrap (k8 + (1 : Int))) h1 (h2 ++ [IntKind.i64.wrap (parity1 + k8)])))
 ((s_l2Identity.f k data0).bind fun d0 =>
  (s_l2Cauchy.f k h1 h2).bind fun d1 =>
  gd (appOk (List.length d0 + List.length d1) (Try.prog.bytesOf (27 : Nat)))
  (some (d0 ++ d1))) := by kernel_rfl
theorem s_l3Matrix.f_eq (k : Nat) (data : Int) (parity : Int) : s_l3Matrix.f k data parity =
 s_l3Matrix.l0 k k data parity ((0 : Int)) ([]) ([]) := (opq_eq _).trans (by kernel_rfl)
abbrev s_l2Add.s : Sig := ⟨112, [], [.chg, .val, .val], [.one (.row 3 (.int .i64)), .one (.row 3 (.int .i64)), .one (.int .i64)], [], [.rows 3 (.int .i64)], [(0, [(0,false),(2,false),(8,true),(9,false),(10,false)])]⟩
noncomputable def s_l2Add.C (k : Nat) : List (Nat × Ctr) := [(128, s_l1Mul.s.ctr (fun x => s_l1Mul.f k x.1 x.2))]
noncomputable def s_l2Add.f (k : Nat) (r : List Int) (o : List Int) (f : Int) : Option (Unit × List Int) := opq (s_l2Add.s.run Try.prog (s_l2Add.C k) k (r, o, f))
theorem s_l2Add.ok (k : Nat) : CtrOk Try.prog 112 (s_l2Add.s.ctr (fun x => s_l2Add.f k x.1 x.2.1 x.2.2)) := sig_ok s_l2Add.s (.cons (s_l1Mul.ok k) .nil) (by kernel_rfl) fun _ => opq_eq _
noncomputable def s_l2Add.l0 (k : Nat) (m : Nat) (f2 : Int) (t8 : List Int) (t9 : Int) (t10 : Int) (h1 : List Int) : Option (Unit × List Int) := s_l2Add.s.head Try.prog (s_l2Add.C k) k 2 0 [] m [(0, AV.ref 1), (2, AV.int IntKind.i64 f2), (8, AV.row 3 (Kind.int IntKind.i64) t8), (9, AV.int IntKind.i64 t9), (10, AV.int IntKind.i64 t10)] [Root.dead, Root.rows 3 (Kind.int IntKind.i64) h1]
theorem s_l2Add.l0_z (k : Nat) (f2 : Int) (t8 : List Int) (t9 : Int) (t10 : Int) (h1 : List Int) : s_l2Add.l0 k 0 f2 t8 t9 t10 h1 = none := by kernel_rfl
theorem s_l2Add.l0_s (k : Nat) (m : Nat) (f2 : Int) (t8 : List Int) (t9 : Int) (t10 : Int) (h1 : List Int) : s_l2Add.l0 k (m + 1) f2 t8 t9 t10 h1 =
 cn (decide (t10 < t9))
 (gd (inb t10 t8.length)
  (gd (inb t10 h1.length)
   ((s_l1Mul.f k (getAt (0 : Int) t8 t10.toNat) f2).bind fun d0 =>
    gd (inb t10 h1.length)
    (s_l2Add.l0 k m f2 t8 t9 (IntKind.i64.wrap (t10 + (1 : Int))) (h1.set t10.toNat (IntKind.i64.wrap (↑(BitVec.ofInt (64 : Nat) (getAt (0 : Int) h1 t10.toNat) ^^^ BitVec.ofInt (64 : Nat) d0).toNat : Int)))))))
 (some (((), h1))) := by kernel_rfl
theorem s_l2Add.f_eq (k : Nat) (r : List Int) (o : List Int) (f : Int) : s_l2Add.f k r o f =
 s_l2Add.l0 k k f o ((↑o.length : Int)) ((0 : Int)) r := (opq_eq _).trans (by kernel_rfl)
abbrev s_l3Times.s : Sig := ⟨91, [], [.val, .val], [.one (.row 27 (.sl 3 (.int .i64))), .one (.row 27 (.sl 3 (.int .i64)))], [.one (.own 27 (.sl 3 (.int .i64)))], [], [(2, [(1,false),(5,true),(8,true),(11,true),(12,false),(13,false),(22,true),(23,false),(24,false)]), (0, [(1,false),(5,true),(11,true),(12,false),(13,false)])]⟩
noncomputable def s_l3Times.C (k : Nat) : List (Nat × Ctr) := [(112, s_l2Add.s.ctr (fun x => s_l2Add.f k x.1 x.2.1 x.2.2))]
noncomputable def s_l3Times.f (k : Nat) (m_ : List (List Int)) (pieces : List (List Int)) : Option (List (List Int)) := opq (s_l3Times.s.run Try.prog (s_l3Times.C k) k (m_, pieces))
theorem s_l3Times.ok (k : Nat) : CtrOk Try.prog 91 (s_l3Times.s.ctr (fun x => s_l3Times.f k x.1 x.2)) := sig_ok s_l3Times.s (.cons (s_l2Add.ok k) .nil) (by kernel_rfl) fun _ => opq_eq _
noncomputable def s_l3Times.l0 (k : Nat) (m : Nat) (pieces1 : List (List Int)) (t11 : List (List Int)) (t12 : Int) (t13 : Int) (h1 : List (List Int)) : Option (List (List Int)) := s_l3Times.s.head Try.prog (s_l3Times.C k) k 1 0 [] m [(1, AV.row 27 (Kind.sl 3 (Kind.int IntKind.i64)) pieces1), (5, AV.ref 1), (11, AV.row 27 (Kind.sl 3 (Kind.int IntKind.i64)) t11), (12, AV.int IntKind.i64 t12), (13, AV.int IntKind.i64 t13)] [Root.dead, Root.rows 27 (Kind.sl 3 (Kind.int IntKind.i64)) h1]
noncomputable def s_l3Times.l2 (k : Nat) (n0 : Nat) (m : Nat) (pieces1 : List (List Int)) (t11 : List (List Int)) (t12 : Int) (t13 : Int) (t22 : List Int) (t23 : Int) (t24 : Int) (h1 : List (List Int)) (h2 : List Int) : Option (List (List Int)) := s_l3Times.s.head Try.prog (s_l3Times.C k) k 1 2 [n0] m [(1, AV.row 27 (Kind.sl 3 (Kind.int IntKind.i64)) pieces1), (5, AV.ref 1), (8, AV.ref 2), (11, AV.row 27 (Kind.sl 3 (Kind.int IntKind.i64)) t11), (12, AV.int IntKind.i64 t12), (13, AV.int IntKind.i64 t13), (22, AV.row 3 (Kind.int IntKind.i64) t22), (23, AV.int IntKind.i64 t23), (24, AV.int IntKind.i64 t24)] [Root.dead, Root.rows 27 (Kind.sl 3 (Kind.int IntKind.i64)) h1, Root.rows 3 (Kind.int IntKind.i64) h2]
theorem s_l3Times.l0_z (k : Nat) (pieces1 : List (List Int)) (t11 : List (List Int)) (t12 : Int) (t13 : Int) (h1 : List (List Int)) : s_l3Times.l0 k 0 pieces1 t11 t12 t13 h1 = none := by kernel_rfl
theorem s_l3Times.l0_s (k : Nat) (m : Nat) (pieces1 : List (List Int)) (t11 : List (List Int)) (t12 : Int) (t13 : Int) (h1 : List (List Int)) : s_l3Times.l0 k (m + 1) pieces1 t11 t12 t13 h1 =
 cn (decide (t13 < t12))
 (gd (inb t13 t11.length)
  (gd (inb (0 : Int) pieces1.length)
   (gd (mkOk (↑(getAt [] pieces1 (0 : Nat)).length : Int) (↑(getAt [] pieces1 (0 : Nat)).length : Int) (Try.prog.bytesOf (3 : Nat)))
    (s_l3Times.l2 k m k pieces1 t11 t12 t13 (getAt [] t11 t13.toNat) ((↑(getAt [] t11 t13.toNat).length : Int)) ((0 : Int)) h1 (List.replicate (↑(getAt [] pieces1 (0 : Nat)).length : Int).toNat (0 : Int))))))
 (some h1) := by kernel_rfl
theorem s_l3Times.l2_z (k : Nat) (n0 : Nat) (pieces1 : List (List Int)) (t11 : List (List Int)) (t12 : Int) (t13 : Int) (t22 : List Int) (t23 : Int) (t24 : Int) (h1 : List (List Int)) (h2 : List Int) : s_l3Times.l2 k n0 0 pieces1 t11 t12 t13 t22 t23 t24 h1 h2 = none := by kernel_rfl
theorem s_l3Times.l2_s (k : Nat) (n0 : Nat) (m : Nat) (pieces1 : List (List Int)) (t11 : List (List Int)) (t12 : Int) (t13 : Int) (t22 : List Int) (t23 : Int) (t24 : Int) (h1 : List (List Int)) (h2 : List Int) : s_l3Times.l2 k n0 (m + 1) pieces1 t11 t12 t13 t22 t23 t24 h1 h2 =
 cn (decide (t24 < t23))
 (gd (inb t24 t22.length)
  (gd (inb t24 pieces1.length)
   ((s_l2Add.f k h2 (getAt [] pieces1 t24.toNat) (getAt (0 : Int) t22 t24.toNat)).bind fun d0 =>
    s_l3Times.l2 k n0 m pieces1 t11 t12 t13 t22 t23 (IntKind.i64.wrap (t24 + (1 : Int))) h1 d0.snd)))
 (gd (appOk (h1.length + (1 : Nat)) (Try.prog.bytesOf (27 : Nat)))
  (s_l3Times.l0 k n0 pieces1 t11 t12 (IntKind.i64.wrap (t13 + (1 : Int))) (h1 ++ [h2]))) := by kernel_rfl
theorem s_l3Times.f_eq (k : Nat) (m_ : List (List Int)) (pieces : List (List Int)) : s_l3Times.f k m_ pieces =
 s_l3Times.l0 k k pieces m_ ((↑m_.length : Int)) ((0 : Int)) ([]) := (opq_eq _).trans (by kernel_rfl)
abbrev s_l3Encode.s : Sig := ⟨75, [], [.val, .val], [.one (.row 27 (.sl 3 (.int .i64))), .one (.int .i64)], [.one (.own 27 (.sl 3 (.int .i64)))], [], []⟩
noncomputable def s_l3Encode.C (k : Nat) : List (Nat × Ctr) := [(91, s_l3Times.s.ctr (fun x => s_l3Times.f k x.1 x.2)), (92, s_l3Matrix.s.ctr (fun x => s_l3Matrix.f k x.1 x.2))]
noncomputable def s_l3Encode.f (k : Nat) (data : List (List Int)) (parity : Int) : Option (List (List Int)) := opq (s_l3Encode.s.run Try.prog (s_l3Encode.C k) k (data, parity))
theorem s_l3Encode.ok (k : Nat) : CtrOk Try.prog 75 (s_l3Encode.s.ctr (fun x => s_l3Encode.f k x.1 x.2)) := sig_ok s_l3Encode.s (.cons (s_l3Times.ok k) (.cons (s_l3Matrix.ok k) .nil)) (by kernel_rfl) fun _ => opq_eq _
theorem s_l3Encode.f_eq (k : Nat) (data : List (List Int)) (parity : Int) : s_l3Encode.f k data parity =
 (s_l3Matrix.f k (↑data.length : Int) parity).bind fun d0 =>
 (s_l3Times.f k d0 data).bind fun d1 =>
 some d1 := (opq_eq _).trans (by kernel_rfl)
abbrev s_l8Pieces.s : Sig := ⟨56, [], [.val], [.one .str], [.one (.own 27 (.sl 3 (.int .i64)))], [], [(2, [(3,false),(4,true),(5,false),(6,true),(7,false)]), (0, [(3,false),(4,true),(5,false)])]⟩
noncomputable def s_l8Pieces.C (k : Nat) : List (Nat × Ctr) := [(74, s_l6Bytes.s.ctr (fun x => s_l6Bytes.f k x.1 x.2)), (75, s_l3Encode.s.ctr (fun x => s_l3Encode.f k x.1 x.2))]
noncomputable def s_l8Pieces.f (k : Nat) (text : ByteArray) : Option (List (List Int)) := opq (s_l8Pieces.s.run Try.prog (s_l8Pieces.C k) k text)
theorem s_l8Pieces.ok (k : Nat) : CtrOk Try.prog 56 (s_l8Pieces.s.ctr (fun x => s_l8Pieces.f k x)) := sig_ok s_l8Pieces.s (.cons (s_l6Bytes.ok k) (.cons (s_l3Encode.ok k) .nil)) (by kernel_rfl) fun _ => opq_eq _
noncomputable def s_l8Pieces.l0 (k : Nat) (m : Nat) (s3 : ByteArray) (k5 : Int) (h1 : List (List Int)) : Option (List (List Int)) := s_l8Pieces.s.head Try.prog (s_l8Pieces.C k) k 1 0 [] m [(3, AV.str s3), (4, AV.ref 1), (5, AV.int IntKind.i64 k5)] [Root.dead, Root.rows 27 (Kind.sl 3 (Kind.int IntKind.i64)) h1]
noncomputable def s_l8Pieces.l2 (k : Nat) (n0 : Nat) (m : Nat) (s3 : ByteArray) (k5 : Int) (i7 : Int) (h1 : List (List Int)) (h2 : List Int) : Option (List (List Int)) := s_l8Pieces.s.head Try.prog (s_l8Pieces.C k) k 1 2 [n0] m [(3, AV.str s3), (4, AV.ref 1), (5, AV.int IntKind.i64 k5), (6, AV.ref 2), (7, AV.int IntKind.i64 i7)] [Root.dead, Root.rows 27 (Kind.sl 3 (Kind.int IntKind.i64)) h1, Root.rows 3 (Kind.int IntKind.i64) h2]
theorem s_l8Pieces.l0_z (k : Nat) (s3 : ByteArray) (k5 : Int) (h1 : List (List Int)) : s_l8Pieces.l0 k 0 s3 k5 h1 = none := by kernel_rfl
theorem s_l8Pieces.l0_s (k : Nat) (m : Nat) (s3 : ByteArray) (k5 : Int) (h1 : List (List Int)) : s_l8Pieces.l0 k (m + 1) s3 k5 h1 =
 cn (decide (k5 < (3 : Int)))
 (s_l8Pieces.l2 k m k s3 k5 ((0 : Int)) h1 ([]))
 ((s_l3Encode.f k h1 (2 : Int)).bind fun d1 =>
  some d1) := by kernel_rfl
theorem s_l8Pieces.l2_z (k : Nat) (n0 : Nat) (s3 : ByteArray) (k5 : Int) (i7 : Int) (h1 : List (List Int)) (h2 : List Int) : s_l8Pieces.l2 k n0 0 s3 k5 i7 h1 h2 = none := by kernel_rfl
theorem s_l8Pieces.l2_s (k : Nat) (n0 : Nat) (m : Nat) (s3 : ByteArray) (k5 : Int) (i7 : Int) (h1 : List (List Int)) (h2 : List Int) : s_l8Pieces.l2 k n0 (m + 1) s3 k5 i7 h1 h2 =
 cn (decide (i7 < (16 : Int)))
 (gd (inb (IntKind.i64.wrap (IntKind.i64.wrap (k5 * (16 : Int)) + i7)) s3.size)
  (gd (appOk (h2.length + [IntKind.i64.wrap (↑(s3.data.getD (IntKind.i64.wrap (IntKind.i64.wrap (k5 * (16 : Int)) + i7)).toNat (0 : UInt8)).toNat : Int)].length) (Try.prog.bytesOf (3 : Nat)))
   (s_l8Pieces.l2 k n0 m s3 k5 (IntKind.i64.wrap (i7 + (1 : Int))) h1 (h2 ++ [IntKind.i64.wrap (↑(s3.data.getD (IntKind.i64.wrap (IntKind.i64.wrap (k5 * (16 : Int)) + i7)).toNat (0 : UInt8)).toNat : Int)]))))
 (gd (appOk (h1.length + (1 : Nat)) (Try.prog.bytesOf (27 : Nat)))
  (s_l8Pieces.l0 k n0 s3 (IntKind.i64.wrap (k5 + (1 : Int))) (h1 ++ [h2]))) := by kernel_rfl
theorem s_l8Pieces.f_eq (k : Nat) (text : ByteArray) : s_l8Pieces.f k text =
 both
 ((s_l6Bytes.f k (↑text.size : Int) (1 : Int)).bind fun d0 =>
  gd (decide (ByteArray.size d0 + text.size ≤ (140737488355328 : Nat)))
  (gd (mkOk (IntKind.i64.wrap ((47 : Int) - (↑text.size : Int))) (IntKind.i64.wrap ((47 : Int) - (↑text.size : Int))) (Try.prog.bytesOf (5 : Nat)))
   (gd (decide ((d0 ++ text).size + (strOfNums (List.replicate (IntKind.i64.wrap ((47 : Int) - (↑text.size : Int))).toNat (0 : Int))).size ≤ (140737488355328 : Nat)))
    (s_l8Pieces.l0 k k (d0 ++ text ++ strOfNums (List.replicate (IntKind.i64.wrap ((47 : Int) - (↑text.size : Int))).toNat (0 : Int))) ((0 : Int)) ([])))))
 (gd (mkOk (IntKind.i64.wrap ((47 : Int) - (↑text.size : Int))) (IntKind.i64.wrap ((47 : Int) - (↑text.size : Int))) (Try.prog.bytesOf (5 : Nat)))
  (dup
   ((s_l6Bytes.f k (↑text.size : Int) (1 : Int)).bind fun d0 =>
    gd (decide (ByteArray.size d0 + text.size ≤ (140737488355328 : Nat)))
    (gd (decide ((d0 ++ text).size + (strOfNums (List.replicate (IntKind.i64.wrap ((47 : Int) - (↑text.size : Int))).toNat (0 : Int))).size ≤ (140737488355328 : Nat)))
     (s_l8Pieces.l0 k k (d0 ++ text ++ strOfNums (List.replicate (IntKind.i64.wrap ((47 : Int) - (↑text.size : Int))).toNat (0 : Int))) ((0 : Int)) ([])))))) := (opq_eq _).trans (by kernel_rfl)
abbrev s_l8Text.s : Sig := ⟨77, [], [.val], [.one (.row 3 (.int .i64))], [.one .str], [], [(0, [(3,false),(6,true),(7,false),(8,false)])]⟩
noncomputable def s_l8Text.C (k : Nat) : List (Nat × Ctr) := []
noncomputable def s_l8Text.f (k : Nat) (p : List Int) : Option ByteArray := opq (s_l8Text.s.run Try.prog (s_l8Text.C k) k p)
theorem s_l8Text.ok (k : Nat) : CtrOk Try.prog 77 (s_l8Text.s.ctr (fun x => s_l8Text.f k x)) := sig_ok s_l8Text.s .nil (by kernel_rfl) fun _ => opq_eq _
noncomputable def s_l8Text.l0 (k : Nat) (m : Nat) (s3 : ByteArray) (t6 : List Int) (t7 : Int) (t8 : Int) : Option ByteArray := s_l8Text.s.head Try.prog (s_l8Text.C k) k 1 0 [] m [(3, AV.str s3), (6, AV.row 3 (Kind.int IntKind.i64) t6), (7, AV.int IntKind.i64 t7), (8, AV.int IntKind.i64 t8)] [Root.dead]
theorem s_l8Text.l0_z (k : Nat) (s3 : ByteArray) (t6 : List Int) (t7 : Int) (t8 : Int) : s_l8Text.l0 k 0 s3 t6 t7 t8 = none := by kernel_rfl
theorem s_l8Text.l0_s (k : Nat) (m : Nat) (s3 : ByteArray) (t6 : List Int) (t7 : Int) (t8 : Int) : s_l8Text.l0 k (m + 1) s3 t6 t7 t8 =
 cn (decide (t8 < t7))
 (gd (inb t8 t6.length)
  (gd (decide (s3.size + (strOfNums [IntKind.u8.wrap (getAt (0 : Int) t6 t8.toNat)]).size ≤ (140737488355328 : Nat)))
   (s_l8Text.l0 k m (s3 ++ strOfNums [IntKind.u8.wrap (getAt (0 : Int) t6 t8.toNat)]) t6 t7 (IntKind.i64.wrap (t8 + (1 : Int))))))
 (some s3) := by kernel_rfl
theorem s_l8Text.f_eq (k : Nat) (p : List Int) : s_l8Text.f k p =
 s_l8Text.l0 k k ByteArray.empty p ((↑p.length : Int)) ((0 : Int)) := (opq_eq _).trans (by kernel_rfl)
abbrev s_l5Byte.s : Sig := ⟨115, [], [.val], [.one (.int .i64)], [.one (.int .i64)], [], [(0, [(0,false),(3,false)])]⟩
noncomputable def s_l5Byte.C (k : Nat) : List (Nat × Ctr) := []
noncomputable def s_l5Byte.f (k : Nat) (sum : Int) : Option Int := opq (s_l5Byte.s.run Try.prog (s_l5Byte.C k) k sum)
theorem s_l5Byte.ok (k : Nat) : CtrOk Try.prog 115 (s_l5Byte.s.ctr (fun x => s_l5Byte.f k x)) := sig_ok s_l5Byte.s .nil (by kernel_rfl) fun _ => opq_eq _
noncomputable def s_l5Byte.l0 (k : Nat) (m : Nat) (sum0 : Int) (k3 : Int) : Option Int := s_l5Byte.s.head Try.prog (s_l5Byte.C k) k 1 0 [] m [(0, AV.int IntKind.i64 sum0), (3, AV.int IntKind.i64 k3)] [Root.dead]
theorem s_l5Byte.l0_z (k : Nat) (sum0 : Int) (k3 : Int) : s_l5Byte.l0 k 0 sum0 k3 = none := by kernel_rfl
theorem s_l5Byte.l0_s (k : Nat) (m : Nat) (sum0 : Int) (k3 : Int) : s_l5Byte.l0 k (m + 1) sum0 k3 =
 cn (decide (k3 < (8 : Int)))
 (cn (decide (IntKind.i64.wrap (↑(BitVec.ofInt (64 : Nat) sum0 &&& BitVec.ofInt (64 : Nat) (1 : Int)).toNat : Int) = (1 : Int)))
  (s_l5Byte.l0 k m (IntKind.i64.wrap (↑(BitVec.ofInt (64 : Nat) (sum0.fdiv ((2 : Int) ^ (1 : Nat))) ^^^ BitVec.ofInt (64 : Nat) (2197175160 : Int)).toNat : Int)) (IntKind.i64.wrap (k3 + (1 : Int))))
  (s_l5Byte.l0 k m (sum0.fdiv ((2 : Int) ^ (1 : Nat))) (IntKind.i64.wrap (k3 + (1 : Int)))))
 (some sum0) := by kernel_rfl
theorem s_l5Byte.f_eq (k : Nat) (sum : Int) : s_l5Byte.f k sum =
 s_l5Byte.l0 k k sum ((0 : Int)) := (opq_eq _).trans (by kernel_rfl)
abbrev s_l5On.s : Sig := ⟨94, [], [.val, .val], [.one (.int .i64), .one .str], [.one (.int .i64)], [], [(0, [(0,false),(1,false),(5,false)])]⟩
noncomputable def s_l5On.C (k : Nat) : List (Nat × Ctr) := [(115, s_l5Byte.s.ctr (fun x => s_l5Byte.f k x))]
noncomputable def s_l5On.f (k : Nat) (sum : Int) (s : ByteArray) : Option Int := opq (s_l5On.s.run Try.prog (s_l5On.C k) k (sum, s))
theorem s_l5On.ok (k : Nat) : CtrOk Try.prog 94 (s_l5On.s.ctr (fun x => s_l5On.f k x.1 x.2)) := sig_ok s_l5On.s (.cons (s_l5Byte.ok k) .nil) (by kernel_rfl) fun _ => opq_eq _
noncomputable def s_l5On.l0 (k : Nat) (m : Nat) (sum0 : Int) (s1 : ByteArray) (i5 : Int) : Option Int := s_l5On.s.head Try.prog (s_l5On.C k) k 1 0 [] m [(0, AV.int IntKind.i64 sum0), (1, AV.str s1), (5, AV.int IntKind.i64 i5)] [Root.dead]
theorem s_l5On.l0_z (k : Nat) (sum0 : Int) (s1 : ByteArray) (i5 : Int) : s_l5On.l0 k 0 sum0 s1 i5 = none := by kernel_rfl
theorem s_l5On.l0_s (k : Nat) (m : Nat) (sum0 : Int) (s1 : ByteArray) (i5 : Int) : s_l5On.l0 k (m + 1) sum0 s1 i5 =
 cn (decide (i5 < (↑s1.size : Int)))
 (gd (inb i5 s1.size)
  ((s_l5Byte.f k (IntKind.i64.wrap (↑(BitVec.ofInt (64 : Nat) sum0 ^^^ BitVec.ofInt (64 : Nat) (IntKind.i64.wrap (↑(s1.data.getD i5.toNat (0 : UInt8)).toNat : Int))).toNat : Int))).bind fun d0 =>
   s_l5On.l0 k m d0 s1 (IntKind.i64.wrap (i5 + (1 : Int)))))
 (some (IntKind.i64.wrap (↑(BitVec.ofInt (64 : Nat) sum0 ^^^ BitVec.ofInt (64 : Nat) (4294967295 : Int)).toNat : Int))) := by kernel_rfl
theorem s_l5On.f_eq (k : Nat) (sum : Int) (s : ByteArray) : s_l5On.f k sum s =
 s_l5On.l0 k k (IntKind.i64.wrap (↑(BitVec.ofInt (64 : Nat) sum ^^^ BitVec.ofInt (64 : Nat) (4294967295 : Int)).toNat : Int)) s ((0 : Int)) := (opq_eq _).trans (by kernel_rfl)
abbrev s_l6Low.s : Sig := ⟨93, [], [.val], [.one (.int .i64)], [.one .str], [], [(0, [(0,false),(3,false),(4,false)])]⟩
noncomputable def s_l6Low.C (k : Nat) : List (Nat × Ctr) := [(74, s_l6Bytes.s.ctr (fun x => s_l6Bytes.f k x.1 x.2))]
noncomputable def s_l6Low.f (k : Nat) (n : Int) : Option ByteArray := opq (s_l6Low.s.run Try.prog (s_l6Low.C k) k n)
theorem s_l6Low.ok (k : Nat) : CtrOk Try.prog 93 (s_l6Low.s.ctr (fun x => s_l6Low.f k x)) := sig_ok s_l6Low.s (.cons (s_l6Bytes.ok k) .nil) (by kernel_rfl) fun _ => opq_eq _
noncomputable def s_l6Low.l0 (k : Nat) (m : Nat) (n0 : Int) (s3 : ByteArray) (k4 : Int) : Option ByteArray := s_l6Low.s.head Try.prog (s_l6Low.C k) k 1 0 [] m [(0, AV.int IntKind.i64 n0), (3, AV.str s3), (4, AV.int IntKind.i64 k4)] [Root.dead]
theorem s_l6Low.l0_z (k : Nat) (n0 : Int) (s3 : ByteArray) (k4 : Int) : s_l6Low.l0 k 0 n0 s3 k4 = none := by kernel_rfl
theorem s_l6Low.l0_s (k : Nat) (m : Nat) (n0 : Int) (s3 : ByteArray) (k4 : Int) : s_l6Low.l0 k (m + 1) n0 s3 k4 =
 cn (decide (k4 < (4 : Int)))
 (gd (decide ((0 : Int) ≤ IntKind.u64.wrap (IntKind.i64.wrap ((8 : Int) * k4))))
  ((s_l6Bytes.f k (n0.fdiv ((2 : Int) ^ min (IntKind.u64.wrap (IntKind.i64.wrap ((8 : Int) * k4))).toNat (64 : Nat))) (1 : Int)).bind fun d0 =>
   gd (decide (s3.size + ByteArray.size d0 ≤ (140737488355328 : Nat)))
   (s_l6Low.l0 k m n0 (s3 ++ d0) (IntKind.i64.wrap (k4 + (1 : Int))))))
 (some s3) := by kernel_rfl
theorem s_l6Low.f_eq (k : Nat) (n : Int) : s_l6Low.f k n =
 s_l6Low.l0 k k n ByteArray.empty ((0 : Int)) := (opq_eq _).trans (by kernel_rfl)
abbrev s_l6Frame.s : Sig := ⟨76, [], [.val], [.agg [.int .i64, .int .i64, .int .i64, .str]], [.one .str], [], []⟩
noncomputable def s_l6Frame.C (k : Nat) : List (Nat × Ctr) := [(74, s_l6Bytes.s.ctr (fun x => s_l6Bytes.f k x.1 x.2)), (93, s_l6Low.s.ctr (fun x => s_l6Low.f k x)), (94, s_l5On.s.ctr (fun x => s_l5On.f k x.1 x.2))]
noncomputable def s_l6Frame.f (k : Nat) (f_Kind : Int) (f_At : Int) (f_Epoch : Int) (f_Body : ByteArray) : Option ByteArray := opq (s_l6Frame.s.run Try.prog (s_l6Frame.C k) k (f_Kind, f_At, f_Epoch, f_Body))
theorem s_l6Frame.ok (k : Nat) : CtrOk Try.prog 76 (s_l6Frame.s.ctr (fun x => s_l6Frame.f k x.1 x.2.1 x.2.2.1 x.2.2.2)) := sig_ok s_l6Frame.s (.cons (s_l6Bytes.ok k) (.cons (s_l6Low.ok k) (.cons (s_l5On.ok k) .nil))) (by kernel_rfl) fun _ => opq_eq _
theorem s_l6Frame.f_eq (k : Nat) (f_Kind : Int) (f_At : Int) (f_Epoch : Int) (f_Body : ByteArray) : s_l6Frame.f k f_Kind f_At f_Epoch f_Body =

 both ((s_l6Bytes.f k f_Kind (1 : Int)).bind fun d0 => both ((s_l6Bytes.f k f_At (2 : Int)).bind fun d1 => gd (decide (ByteArray.size d0 + ByteArray.size d1 ≤ (140737488355328 : Nat))) (both ((s_l6Bytes.f k f_Epoch (2 : Int)).bind fun d2 => gd (decide ((d0 ++ d1).size + ByteArray.size d2 ≤ (140737488355328 : Nat))) (both ((s_l6Bytes.f k (↑f_Body.size : Int) (1 : Int)).bind fun d3 => gd (decide ((d0 ++ d1 ++ d2).size + ByteArray.size d3 ≤ (140737488355328 : Nat))) (gd (decide ((d0 ++ d1 ++ d2 ++ d3).size + f_Body.size ≤ (140737488355328 : Nat))) (gd (mkOk (IntKind.i64.wrap (IntKind.i64.wrap ((16 : Int) - (↑f_Body.size : Int)) + (2 : Int))) (IntKind.i64.wrap (IntKind.i64.wrap ((16 : Int) - (↑f_Body.size : Int)) + (2 : Int))) (Try.prog.bytesOf (5 : Nat))) (gd (decide ((d0 ++ d1 ++ d2 ++ d3 ++ f_Body).size + (strOfNums (List.replicate (IntKind.i64.wrap (IntKind.i64.wrap ((16 : Int) - (↑f_Body.size : Int)) + (2 : Int))).toNat (0 : Int))).size ≤ (140737488355328 : Nat))) ((s_l5On.f k (0 : Int) (d0 ++ d1 ++ d2 ++ d3 ++ f_Body ++ strOfNums (List.replicate (IntKind.i64.wrap (IntKind.i64.wrap ((16 : Int) - (↑f_Body.size : Int)) + (2 : Int))).toNat (0 : Int)))).bind fun d4 => (s_l6Low.f k d4).bind fun d5 => gd (decide ((d0 ++ d1 ++ d2 ++ d3 ++ f_Body ++ strOfNums (List.replicate (IntKind.i64.wrap (IntKind.i64.wrap ((16 : Int) - (↑f_Body.size : Int)) + (2 : Int))).toNat (0 : Int))).size + ByteArray.size d5 ≤ (140737488355328 : Nat))) (some (d0 ++ d1 ++ d2 ++ d3 ++ f_Body ++ strOfNums (List.replicate (IntKind.i64.wrap (IntKind.i64.wrap ((16 : Int) - (↑f_Body.size : Int)) + (2 : Int))).toNat (0 : Int)) ++ d5))))))) (gd (mkOk (IntKind.i64.wrap (IntKind.i64.wrap ((16 : Int) - (↑f_Body.size : Int)) + (2 : Int))) (IntKind.i64.wrap (IntKind.i64.wrap ((16 : Int) - (↑f_Body.size : Int)) + (2 : Int))) (Try.prog.bytesOf (5 : Nat))) (dup ((s_l6Bytes.f k (↑f_Body.size : Int) (1 : Int)).bind fun d3 => gd (decide ((d0 ++ d1 ++ d2).size + ByteArray.size d3 ≤ (140737488355328 : Nat))) (gd (decide ((d0 ++ d1 ++ d2 ++ d3).size + f_Body.size ≤ (140737488355328 : Nat))) (gd (decide ((d0 ++ d1 ++ d2 ++ d3 ++ f_Body).size + (strOfNums (List.replicate (IntKind.i64.wrap (IntKind.i64.wrap ((16 : Int) - (↑f_Body.size : Int)) + (2 : Int))).toNat (0 : Int))).size ≤ (140737488355328 : Nat))) ((s_l5On.f k (0 : Int) (d0 ++ d1 ++ d2 ++ d3 ++ f_Body ++ strOfNums (List.replicate (IntKind.i64.wrap (IntKind.i64.wrap ((16 : Int) - (↑f_Body.size : Int)) + (2 : Int))).toNat (0 : Int)))).bind fun d4 => (s_l6Low.f k d4).bind fun d5 => gd (decide ((d0 ++ d1 ++ d2 ++ d3 ++ f_Body ++ strOfNums (List.replicate (IntKind.i64.wrap (IntKind.i64.wrap ((16 : Int) - (↑f_Body.size : Int)) + (2 : Int))).toNat (0 : Int))).size + ByteArray.size d5 ≤ (140737488355328 : Nat))) (some (d0 ++ d1 ++ d2 ++ d3 ++ f_Body ++ strOfNums (List.replicate (IntKind.i64.wrap (IntKind.i64.wrap ((16 : Int) - (↑f_Body.size : Int)) + (2 : Int))).toNat (0 : Int)) ++ d5)))))))))) (gd (mkOk (IntKind.i64.wrap (IntKind.i64.wrap ((16 : Int) - (↑f_Body.size : Int)) + (2 : Int))) (IntKind.i64.wrap (IntKind.i64.wrap ((16 : Int) - (↑f_Body.size : Int)) + (2 : Int))) (Try.prog.bytesOf (5 : Nat))) (both ((s_l6Bytes.f k f_Epoch (2 : Int)).bind fun d2 => gd (decide ((d0 ++ d1).size + ByteArray.size d2 ≤ (140737488355328 : Nat))) (dup ((s_l6Bytes.f k (↑f_Body.size : Int) (1 : Int)).bind fun d3 => gd (decide ((d0 ++ d1 ++ d2).size + ByteArray.size d3 ≤ (140737488355328 : Nat))) (gd (decide ((d0 ++ d1 ++ d2 ++ d3).size + f_Body.size ≤ (140737488355328 : Nat))) (gd (decide ((d0 ++ d1 ++ d2 ++ d3 ++ f_Body).size + (strOfNums (List.replicate (IntKind.i64.wrap (IntKind.i64.wrap ((16 : Int) - (↑f_Body.size : Int)) + (2 : Int))).toNat (0 : Int))).size ≤ (140737488355328 : Nat))) ((s_l5On.f k (0 : Int) (d0 ++ d1 ++ d2 ++ d3 ++ f_Body ++ strOfNums (List.replicate (IntKind.i64.wrap (IntKind.i64.wrap ((16 : Int) - (↑f_Body.size : Int)) + (2 : Int))).toNat (0 : Int)))).bind fun d4 => (s_l6Low.f k d4).bind fun d5 => gd (decide ((d0 ++ d1 ++ d2 ++ d3 ++ f_Body ++ strOfNums (List.replicate (IntKind.i64.wrap (IntKind.i64.wrap ((16 : Int) - (↑f_Body.size : Int)) + (2 : Int))).toNat (0 : Int))).size + ByteArray.size d5 ≤ (140737488355328 : Nat))) (some (d0 ++ d1 ++ d2 ++ d3 ++ f_Body ++ strOfNums (List.replicate (IntKind.i64.wrap (IntKind.i64.wrap ((16 : Int) - (↑f_Body.size : Int)) + (2 : Int))).toNat (0 : Int)) ++ d5)))))))) ((s_l6Bytes.f k f_Epoch (2 : Int)).bind fun d2 => gd (decide ((d0 ++ d1).size + ByteArray.size d2 ≤ (140737488355328 : Nat))) ((s_l6Bytes.f k (↑f_Body.size : Int) (1 : Int)).bind fun d3 => gd (decide ((d0 ++ d1 ++ d2).size + ByteArray.size d3 ≤ (140737488355328 : Nat))) (gd (decide ((d0 ++ d1 ++ d2 ++ d3).size + f_Body.size ≤ (140737488355328 : Nat))) (gd (decide ((d0 ++ d1 ++ d2 ++ d3 ++ f_Body).size + (strOfNums (List.replicate (IntKind.i64.wrap (IntKind.i64.wrap ((16 : Int) - (↑f_Body.size : Int)) + (2 : Int))).toNat (0 : Int))).size ≤ (140737488355328 : Nat))) ((s_l5On.f k (0 : Int) (d0 ++ d1 ++ d2 ++ d3 ++ f_Body ++ strOfNums (List.replicate (IntKind.i64.wrap (IntKind.i64.wrap ((16 : Int) - (↑f_Body.size : Int)) + (2 : Int))).toNat (0 : Int)))).bind fun d4 => (s_l6Low.f k d4).bind fun d5 => gd (decide ((d0 ++ d1 ++ d2 ++ d3 ++ f_Body ++ strOfNums (List.replicate (IntKind.i64.wrap (IntKind.i64.wrap ((16 : Int) - (↑f_Body.size : Int)) + (2 : Int))).toNat (0 : Int))).size + ByteArray.size d5 ≤ (140737488355328 : Nat))) (some (d0 ++ d1 ++ d2 ++ d3 ++ f_Body ++ strOfNums (List.replicate (IntKind.i64.wrap (IntKind.i64.wrap ((16 : Int) - (↑f_Body.size : Int)) + (2 : Int))).toNat (0 : Int)) ++ d5))))))))))) (gd (mkOk (IntKind.i64.wrap (IntKind.i64.wrap ((16 : Int) - (↑f_Body.size : Int)) + (2 : Int))) (IntKind.i64.wrap (IntKind.i64.wrap ((16 : Int) - (↑f_Body.size : Int)) + (2 : Int))) (Try.prog.bytesOf (5 : Nat))) (both ((s_l6Bytes.f k f_At (2 : Int)).bind fun d1 => gd (decide (ByteArray.size d0 + ByteArray.size d1 ≤ (140737488355328 : Nat))) (both ((s_l6Bytes.f k f_Epoch (2 : Int)).bind fun d2 => gd (decide ((d0 ++ d1).size + ByteArray.size d2 ≤ (140737488355328 : Nat))) (dup ((s_l6Bytes.f k (↑f_Body.size : Int) (1 : Int)).bind fun d3 => gd (decide ((d0 ++ d1 ++ d2).size + ByteArray.size d3 ≤ (140737488355328 : Nat))) (gd (decide ((d0 ++ d1 ++ d2 ++ d3).size + f_Body.size ≤ (140737488355328 : Nat))) (gd (decide ((d0 ++ d1 ++ d2 ++ d3 ++ f_Body).size + (strOfNums (List.replicate (IntKind.i64.wrap (IntKind.i64.wrap ((16 : Int) - (↑f_Body.size : Int)) + (2 : Int))).toNat (0 : Int))).size ≤ (140737488355328 : Nat))) ((s_l5On.f k (0 : Int) (d0 ++ d1 ++ d2 ++ d3 ++ f_Body ++ strOfNums (List.replicate (IntKind.i64.wrap (IntKind.i64.wrap ((16 : Int) - (↑f_Body.size : Int)) + (2 : Int))).toNat (0 : Int)))).bind fun d4 => (s_l6Low.f k d4).bind fun d5 => gd (decide ((d0 ++ d1 ++ d2 ++ d3 ++ f_Body ++ strOfNums (List.replicate (IntKind.i64.wrap (IntKind.i64.wrap ((16 : Int) - (↑f_Body.size : Int)) + (2 : Int))).toNat (0 : Int))).size + ByteArray.size d5 ≤ (140737488355328 : Nat))) (some (d0 ++ d1 ++ d2 ++ d3 ++ f_Body ++ strOfNums (List.replicate (IntKind.i64.wrap (IntKind.i64.wrap ((16 : Int) - (↑f_Body.size : Int)) + (2 : Int))).toNat (0 : Int)) ++ d5)))))))) ((s_l6Bytes.f k f_Epoch (2 : Int)).bind fun d2 => gd (decide ((d0 ++ d1).size + ByteArray.size d2 ≤ (140737488355328 : Nat))) ((s_l6Bytes.f k (↑f_Body.size : Int) (1 : Int)).bind fun d3 => gd (decide ((d0 ++ d1 ++ d2).size + ByteArray.size d3 ≤ (140737488355328 : Nat))) (gd (decide ((d0 ++ d1 ++ d2 ++ d3).size + f_Body.size ≤ (140737488355328 : Nat))) (gd (decide ((d0 ++ d1 ++ d2 ++ d3 ++ f_Body).size + (strOfNums (List.replicate (IntKind.i64.wrap (IntKind.i64.wrap ((16 : Int) - (↑f_Body.size : Int)) + (2 : Int))).toNat (0 : Int))).size ≤ (140737488355328 : Nat))) ((s_l5On.f k (0 : Int) (d0 ++ d1 ++ d2 ++ d3 ++ f_Body ++ strOfNums (List.replicate (IntKind.i64.wrap (IntKind.i64.wrap ((16 : Int) - (↑f_Body.size : Int)) + (2 : Int))).toNat (0 : Int)))).bind fun d4 => (s_l6Low.f k d4).bind fun d5 => gd (decide ((d0 ++ d1 ++ d2 ++ d3 ++ f_Body ++ strOfNums (List.replicate (IntKind.i64.wrap (IntKind.i64.wrap ((16 : Int) - (↑f_Body.size : Int)) + (2 : Int))).toNat (0 : Int))).size + ByteArray.size d5 ≤ (140737488355328 : Nat))) (some (d0 ++ d1 ++ d2 ++ d3 ++ f_Body ++ strOfNums (List.replicate (IntKind.i64.wrap (IntKind.i64.wrap ((16 : Int) - (↑f_Body.size : Int)) + (2 : Int))).toNat (0 : Int)) ++ d5))))))))) ((s_l6Bytes.f k f_At (2 : Int)).bind fun d1 => gd (decide (ByteArray.size d0 + ByteArray.size d1 ≤ (140737488355328 : Nat))) ((s_l6Bytes.f k f_Epoch (2 : Int)).bind fun d2 => gd (decide ((d0 ++ d1).size + ByteArray.size d2 ≤ (140737488355328 : Nat))) ((s_l6Bytes.f k (↑f_Body.size : Int) (1 : Int)).bind fun d3 => gd (decide ((d0 ++ d1 ++ d2).size + ByteArray.size d3 ≤ (140737488355328 : Nat))) (gd (decide ((d0 ++ d1 ++ d2 ++ d3).size + f_Body.size ≤ (140737488355328 : Nat))) (gd (decide ((d0 ++ d1 ++ d2 ++ d3 ++ f_Body).size + (strOfNums (List.replicate (IntKind.i64.wrap (IntKind.i64.wrap ((16 : Int) - (↑f_Body.size : Int)) + (2 : Int))).toNat (0 : Int))).size ≤ (140737488355328 : Nat))) ((s_l5On.f k (0 : Int) (d0 ++ d1 ++ d2 ++ d3 ++ f_Body ++ strOfNums (List.replicate (IntKind.i64.wrap (IntKind.i64.wrap ((16 : Int) - (↑f_Body.size : Int)) + (2 : Int))).toNat (0 : Int)))).bind fun d4 => (s_l6Low.f k d4).bind fun d5 => gd (decide ((d0 ++ d1 ++ d2 ++ d3 ++ f_Body ++ strOfNums (List.replicate (IntKind.i64.wrap (IntKind.i64.wrap ((16 : Int) - (↑f_Body.size : Int)) + (2 : Int))).toNat (0 : Int))).size + ByteArray.size d5 ≤ (140737488355328 : Nat))) (some (d0 ++ d1 ++ d2 ++ d3 ++ f_Body ++ strOfNums (List.replicate (IntKind.i64.wrap (IntKind.i64.wrap ((16 : Int) - (↑f_Body.size : Int)) + (2 : Int))).toNat (0 : Int)) ++ d5))))))))))) (gd (mkOk (IntKind.i64.wrap (IntKind.i64.wrap ((16 : Int) - (↑f_Body.size : Int)) + (2 : Int))) (IntKind.i64.wrap (IntKind.i64.wrap ((16 : Int) - (↑f_Body.size : Int)) + (2 : Int))) (Try.prog.bytesOf (5 : Nat))) (both ((s_l6Bytes.f k f_Kind (1 : Int)).bind fun d0 => both ((s_l6Bytes.f k f_At (2 : Int)).bind fun d1 => gd (decide (ByteArray.size d0 + ByteArray.size d1 ≤ (140737488355328 : Nat))) (both ((s_l6Bytes.f k f_Epoch (2 : Int)).bind fun d2 => gd (decide ((d0 ++ d1).size + ByteArray.size d2 ≤ (140737488355328 : Nat))) (dup ((s_l6Bytes.f k (↑f_Body.size : Int) (1 : Int)).bind fun d3 => gd (decide ((d0 ++ d1 ++ d2).size + ByteArray.size d3 ≤ (140737488355328 : Nat))) (gd (decide ((d0 ++ d1 ++ d2 ++ d3).size + f_Body.size ≤ (140737488355328 : Nat))) (gd (decide ((d0 ++ d1 ++ d2 ++ d3 ++ f_Body).size + (strOfNums (List.replicate (IntKind.i64.wrap (IntKind.i64.wrap ((16 : Int) - (↑f_Body.size : Int)) + (2 : Int))).toNat (0 : Int))).size ≤ (140737488355328 : Nat))) ((s_l5On.f k (0 : Int) (d0 ++ d1 ++ d2 ++ d3 ++ f_Body ++ strOfNums (List.replicate (IntKind.i64.wrap (IntKind.i64.wrap ((16 : Int) - (↑f_Body.size : Int)) + (2 : Int))).toNat (0 : Int)))).bind fun d4 => (s_l6Low.f k d4).bind fun d5 => gd (decide ((d0 ++ d1 ++ d2 ++ d3 ++ f_Body ++ strOfNums (List.replicate (IntKind.i64.wrap (IntKind.i64.wrap ((16 : Int) - (↑f_Body.size : Int)) + (2 : Int))).toNat (0 : Int))).size + ByteArray.size d5 ≤ (140737488355328 : Nat))) (some (d0 ++ d1 ++ d2 ++ d3 ++ f_Body ++ strOfNums (List.replicate (IntKind.i64.wrap (IntKind.i64.wrap ((16 : Int) - (↑f_Body.size : Int)) + (2 : Int))).toNat (0 : Int)) ++ d5)))))))) ((s_l6Bytes.f k f_Epoch (2 : Int)).bind fun d2 => gd (decide ((d0 ++ d1).size + ByteArray.size d2 ≤ (140737488355328 : Nat))) ((s_l6Bytes.f k (↑f_Body.size : Int) (1 : Int)).bind fun d3 => gd (decide ((d0 ++ d1 ++ d2).size + ByteArray.size d3 ≤ (140737488355328 : Nat))) (gd (decide ((d0 ++ d1 ++ d2 ++ d3).size + f_Body.size ≤ (140737488355328 : Nat))) (gd (decide ((d0 ++ d1 ++ d2 ++ d3 ++ f_Body).size + (strOfNums (List.replicate (IntKind.i64.wrap (IntKind.i64.wrap ((16 : Int) - (↑f_Body.size : Int)) + (2 : Int))).toNat (0 : Int))).size ≤ (140737488355328 : Nat))) ((s_l5On.f k (0 : Int) (d0 ++ d1 ++ d2 ++ d3 ++ f_Body ++ strOfNums (List.replicate (IntKind.i64.wrap (IntKind.i64.wrap ((16 : Int) - (↑f_Body.size : Int)) + (2 : Int))).toNat (0 : Int)))).bind fun d4 => (s_l6Low.f k d4).bind fun d5 => gd (decide ((d0 ++ d1 ++ d2 ++ d3 ++ f_Body ++ strOfNums (List.replicate (IntKind.i64.wrap (IntKind.i64.wrap ((16 : Int) - (↑f_Body.size : Int)) + (2 : Int))).toNat (0 : Int))).size + ByteArray.size d5 ≤ (140737488355328 : Nat))) (some (d0 ++ d1 ++ d2 ++ d3 ++ f_Body ++ strOfNums (List.replicate (IntKind.i64.wrap (IntKind.i64.wrap ((16 : Int) - (↑f_Body.size : Int)) + (2 : Int))).toNat (0 : Int)) ++ d5))))))))) ((s_l6Bytes.f k f_At (2 : Int)).bind fun d1 => gd (decide (ByteArray.size d0 + ByteArray.size d1 ≤ (140737488355328 : Nat))) ((s_l6Bytes.f k f_Epoch (2 : Int)).bind fun d2 => gd (decide ((d0 ++ d1).size + ByteArray.size d2 ≤ (140737488355328 : Nat))) ((s_l6Bytes.f k (↑f_Body.size : Int) (1 : Int)).bind fun d3 => gd (decide ((d0 ++ d1 ++ d2).size + ByteArray.size d3 ≤ (140737488355328 : Nat))) (gd (decide ((d0 ++ d1 ++ d2 ++ d3).size + f_Body.size ≤ (140737488355328 : Nat))) (gd (decide ((d0 ++ d1 ++ d2 ++ d3 ++ f_Body).size + (strOfNums (List.replicate (IntKind.i64.wrap (IntKind.i64.wrap ((16 : Int) - (↑f_Body.size : Int)) + (2 : Int))).toNat (0 : Int))).size ≤ (140737488355328 : Nat))) ((s_l5On.f k (0 : Int) (d0 ++ d1 ++ d2 ++ d3 ++ f_Body ++ strOfNums (List.replicate (IntKind.i64.wrap (IntKind.i64.wrap ((16 : Int) - (↑f_Body.size : Int)) + (2 : Int))).toNat (0 : Int)))).bind fun d4 => (s_l6Low.f k d4).bind fun d5 => gd (decide ((d0 ++ d1 ++ d2 ++ d3 ++ f_Body ++ strOfNums (List.replicate (IntKind.i64.wrap (IntKind.i64.wrap ((16 : Int) - (↑f_Body.size : Int)) + (2 : Int))).toNat (0 : Int))).size + ByteArray.size d5 ≤ (140737488355328 : Nat))) (some (d0 ++ d1 ++ d2 ++ d3 ++ f_Body ++ strOfNums (List.replicate (IntKind.i64.wrap (IntKind.i64.wrap ((16 : Int) - (↑f_Body.size : Int)) + (2 : Int))).toNat (0 : Int)) ++ d5))))))))) ((s_l6Bytes.f k f_Kind (1 : Int)).bind fun d0 => (s_l6Bytes.f k f_At (2 : Int)).bind fun d1 => gd (decide (ByteArray.size d0 + ByteArray.size d1 ≤ (140737488355328 : Nat))) ((s_l6Bytes.f k f_Epoch (2 : Int)).bind fun d2 => gd (decide ((d0 ++ d1).size + ByteArray.size d2 ≤ (140737488355328 : Nat))) ((s_l6Bytes.f k (↑f_Body.size : Int) (1 : Int)).bind fun d3 => gd (decide ((d0 ++ d1 ++ d2).size + ByteArray.size d3 ≤ (140737488355328 : Nat))) (gd (decide ((d0 ++ d1 ++ d2 ++ d3).size + f_Body.size ≤ (140737488355328 : Nat))) (gd (decide ((d0 ++ d1 ++ d2 ++ d3 ++ f_Body).size + (strOfNums (List.replicate (IntKind.i64.wrap (IntKind.i64.wrap ((16 : Int) - (↑f_Body.size : Int)) + (2 : Int))).toNat (0 : Int))).size ≤ (140737488355328 : Nat))) ((s_l5On.f k (0 : Int) (d0 ++ d1 ++ d2 ++ d3 ++ f_Body ++ strOfNums (List.replicate (IntKind.i64.wrap (IntKind.i64.wrap ((16 : Int) - (↑f_Body.size : Int)) + (2 : Int))).toNat (0 : Int)))).bind fun d4 => (s_l6Low.f k d4).bind fun d5 => gd (decide ((d0 ++ d1 ++ d2 ++ d3 ++ f_Body ++ strOfNums (List.replicate (IntKind.i64.wrap (IntKind.i64.wrap ((16 : Int) - (↑f_Body.size : Int)) + (2 : Int))).toNat (0 : Int))).size + ByteArray.size d5 ≤ (140737488355328 : Nat))) (some (d0 ++ d1 ++ d2 ++ d3 ++ f_Body ++ strOfNums (List.replicate (IntKind.i64.wrap (IntKind.i64.wrap ((16 : Int) - (↑f_Body.size : Int)) + (2 : Int))).toNat (0 : Int)) ++ d5)))))))))) := (opq_eq _).trans (by kernel_rfl)
abbrev s_l7Held.s : Sig := ⟨29, [], [.val], [.agg [.row 9 .str, .row 9 .str, .row 4 .bool]], [.one (.own 3 (.int .i64))], [], [(0, [(3,true),(7,true),(8,false),(9,false)])]⟩
noncomputable def s_l7Held.C (k : Nat) : List (Nat × Ctr) := []
noncomputable def s_l7Held.f (k : Nat) (d_Plate : List ByteArray) (d_Held : List ByteArray) (d_Bad : List Bool) : Option (List Int) := opq (s_l7Held.s.run Try.prog (s_l7Held.C k) k (d_Plate, d_Held, d_Bad))
theorem s_l7Held.ok (k : Nat) : CtrOk Try.prog 29 (s_l7Held.s.ctr (fun x => s_l7Held.f k x.1 x.2.1 x.2.2)) := sig_ok s_l7Held.s .nil (by kernel_rfl) fun _ => opq_eq _
noncomputable def s_l7Held.l0 (k : Nat) (m : Nat) (t7 : List ByteArray) (t8 : Int) (t9 : Int) (h1 : List Int) : Option (List Int) := s_l7Held.s.head Try.prog (s_l7Held.C k) k 1 0 [] m [(3, AV.ref 1), (7, AV.row 9 Kind.str t7), (8, AV.int IntKind.i64 t8), (9, AV.int IntKind.i64 t9)] [Root.dead, Root.rows 3 (Kind.int IntKind.i64) h1]
theorem s_l7Held.l0_z (k : Nat) (t7 : List ByteArray) (t8 : Int) (t9 : Int) (h1 : List Int) : s_l7Held.l0 k 0 t7 t8 t9 h1 = none := by kernel_rfl
theorem s_l7Held.l0_s (k : Nat) (m : Nat) (t7 : List ByteArray) (t8 : Int) (t9 : Int) (h1 : List Int) : s_l7Held.l0 k (m + 1) t7 t8 t9 h1 =
 cn (decide (t9 < t8))
 (gd (inb t9 t7.length)
  (cn (!decide ((getAt ByteArray.empty t7 t9.toNat).toList = ByteArray.empty.toList))
   (gd (appOk (h1.length + [t9].length) (Try.prog.bytesOf (3 : Nat)))
    (s_l7Held.l0 k m t7 t8 (IntKind.i64.wrap (t9 + (1 : Int))) (h1 ++ [t9])))
   (s_l7Held.l0 k m t7 t8 (IntKind.i64.wrap (t9 + (1 : Int))) h1)))
 (some h1) := by kernel_rfl
theorem s_l7Held.f_eq (k : Nat) (d_Plate : List ByteArray) (d_Held : List ByteArray) (d_Bad : List Bool) : s_l7Held.f k d_Plate d_Held d_Bad =
 s_l7Held.l0 k k d_Held ((↑d_Held.length : Int)) ((0 : Int)) ([]) := (opq_eq _).trans (by kernel_rfl)
abbrev s_l1Has.s : Sig := ⟨58, [], [.val, .val], [.one (.row 3 (.int .i64)), .one (.int .i64)], [.one .bool], [], [(0, [(1,false),(7,true),(8,false),(9,false)])]⟩
noncomputable def s_l1Has.C (k : Nat) : List (Nat × Ctr) := []
noncomputable def s_l1Has.f (k : Nat) (l : List Int) (n : Int) : Option Bool := opq (s_l1Has.s.run Try.prog (s_l1Has.C k) k (l, n))
theorem s_l1Has.ok (k : Nat) : CtrOk Try.prog 58 (s_l1Has.s.ctr (fun x => s_l1Has.f k x.1 x.2)) := sig_ok s_l1Has.s .nil (by kernel_rfl) fun _ => opq_eq _
noncomputable def s_l1Has.l0 (k : Nat) (m : Nat) (n1 : Int) (t7 : List Int) (t8 : Int) (t9 : Int) : Option Bool := s_l1Has.s.head Try.prog (s_l1Has.C k) k 1 0 [] m [(1, AV.int IntKind.i64 n1), (7, AV.row 3 (Kind.int IntKind.i64) t7), (8, AV.int IntKind.i64 t8), (9, AV.int IntKind.i64 t9)] [Root.dead]
theorem s_l1Has.l0_z (k : Nat) (n1 : Int) (t7 : List Int) (t8 : Int) (t9 : Int) : s_l1Has.l0 k 0 n1 t7 t8 t9 = none := by kernel_rfl
theorem s_l1Has.l0_s (k : Nat) (m : Nat) (n1 : Int) (t7 : List Int) (t8 : Int) (t9 : Int) : s_l1Has.l0 k (m + 1) n1 t7 t8 t9 =
 cn (decide (t9 < t8))
 (gd (inb t9 t7.length)
  (cn (decide (getAt (0 : Int) t7 t9.toNat = n1))
   (some true)
   (s_l1Has.l0 k m n1 t7 t8 (IntKind.i64.wrap (t9 + (1 : Int))))))
 (some false) := by kernel_rfl
theorem s_l1Has.f_eq (k : Nat) (l : List Int) (n : Int) : s_l1Has.f k l n =
 s_l1Has.l0 k k n l ((↑l.length : Int)) ((0 : Int)) := (opq_eq _).trans (by kernel_rfl)
abbrev s_l7Kept.s : Sig := ⟨95, [], [.val, .val], [.agg [.row 9 .str, .row 9 .str, .row 4 .bool], .one (.row 3 (.int .i64))], [.one .bool], [], [(0, [(1,false),(5,true),(10,true),(11,false),(12,false)])]⟩
noncomputable def s_l7Kept.C (k : Nat) : List (Nat × Ctr) := [(29, s_l7Held.s.ctr (fun x => s_l7Held.f k x.1 x.2.1 x.2.2)), (58, s_l1Has.s.ctr (fun x => s_l1Has.f k x.1 x.2))]
noncomputable def s_l7Kept.f (k : Nat) (d_Plate : List ByteArray) (d_Held : List ByteArray) (d_Bad : List Bool) (kept : List Int) : Option Bool := opq (s_l7Kept.s.run Try.prog (s_l7Kept.C k) k ((d_Plate, d_Held, d_Bad), kept))
theorem s_l7Kept.ok (k : Nat) : CtrOk Try.prog 95 (s_l7Kept.s.ctr (fun x => s_l7Kept.f k x.1.1 x.1.2.1 x.1.2.2 x.2)) := sig_ok s_l7Kept.s (.cons (s_l7Held.ok k) (.cons (s_l1Has.ok k) .nil)) (by kernel_rfl) fun _ => opq_eq _
noncomputable def s_l7Kept.l0 (k : Nat) (m : Nat) (kept1 : List Int) (t10 : List Int) (t11 : Int) (t12 : Int) (h1 : List Int) : Option Bool := s_l7Kept.s.head Try.prog (s_l7Kept.C k) k 1 0 [] m [(1, AV.row 3 (Kind.int IntKind.i64) kept1), (5, AV.ref 1), (10, AV.row 3 (Kind.int IntKind.i64) t10), (11, AV.int IntKind.i64 t11), (12, AV.int IntKind.i64 t12)] [Root.dead, Root.rows 3 (Kind.int IntKind.i64) h1]
theorem s_l7Kept.l0_z (k : Nat) (kept1 : List Int) (t10 : List Int) (t11 : Int) (t12 : Int) (h1 : List Int) : s_l7Kept.l0 k 0 kept1 t10 t11 t12 h1 = none := by kernel_rfl
theorem s_l7Kept.l0_s (k : Nat) (m : Nat) (kept1 : List Int) (t10 : List Int) (t11 : Int) (t12 : Int) (h1 : List Int) : s_l7Kept.l0 k (m + 1) kept1 t10 t11 t12 h1 =
 cn (decide (t12 < t11))
 (gd (inb t12 t10.length)
  ((s_l1Has.f k h1 (getAt (0 : Int) t10 t12.toNat)).bind fun d1 =>
   cn (!d1)
   (some false)
   (cn (decide ((0 : Int) < t12))
    (gd (inb (IntKind.i64.wrap (t12 - (1 : Int))) kept1.length)
     (cn (decide (getAt (0 : Int) t10 t12.toNat ≤ getAt (0 : Int) kept1 (IntKind.i64.wrap (t12 - (1 : Int))).toNat))
      (some false)
      (s_l7Kept.l0 k m kept1 t10 t11 (IntKind.i64.wrap (t12 + (1 : Int))) h1)))
    (s_l7Kept.l0 k m kept1 t10 t11 (IntKind.i64.wrap (t12 + (1 : Int))) h1))))
 (some true) := by kernel_rfl
theorem s_l7Kept.f_eq (k : Nat) (d_Plate : List ByteArray) (d_Held : List ByteArray) (d_Bad : List Bool) (kept : List Int) : s_l7Kept.f k d_Plate d_Held d_Bad kept =
 (s_l7Held.f k d_Plate d_Held d_Bad).bind fun d0 =>
 s_l7Kept.l0 k k kept kept ((↑kept.length : Int)) ((0 : Int)) d0 := (opq_eq _).trans (by kernel_rfl)
abbrev s_l7Crash.s : Sig := ⟨27, [.agg 3, .one], [.chg, .chg, .chg, .val], [.one (.row 9 .str), .one (.row 9 .str), .one (.row 4 .bool), .one (.row 3 (.int .i64))], [.agg [.arg 1, .arg 2, .arg 3]], [.rows 9 .str, .rows 9 .str, .rows 4 .bool], [(0, [(1,false),(2,false),(4,false),(8,true),(9,false),(10,false)])]⟩
noncomputable def s_l7Crash.C (k : Nat) : List (Nat × Ctr) := [(58, s_l1Has.s.ctr (fun x => s_l1Has.f k x.1 x.2))]
noncomputable def s_l7Crash.f (k : Nat) (d_Plate : List ByteArray) (d_Held : List ByteArray) (d_Bad : List Bool) (kept : List Int) : Option ((Unit × Unit × Unit) × List ByteArray × List ByteArray × List Bool) := opq (s_l7Crash.s.run Try.prog (s_l7Crash.C k) k (d_Plate, d_Held, d_Bad, kept))
theorem s_l7Crash.ok (k : Nat) : CtrOk Try.prog 27 (s_l7Crash.s.ctr (fun x => s_l7Crash.f k x.1 x.2.1 x.2.2.1 x.2.2.2)) := sig_ok s_l7Crash.s (.cons (s_l1Has.ok k) .nil) (by kernel_rfl) fun _ => opq_eq _
noncomputable def s_l7Crash.l0 (k : Nat) (m : Nat) (kept1 : List Int) (t9 : Int) (t10 : Int) (h1 : List ByteArray) (h2 : List ByteArray) (h3 : List Bool) : Option ((Unit × Unit × Unit) × List ByteArray × List ByteArray × List Bool) := s_l7Crash.s.head Try.prog (s_l7Crash.C k) k 4 0 [] m [(1, AV.row 3 (Kind.int IntKind.i64) kept1), (2, AV.ptr 4 0 0), (4, AV.ptr 5 0 0), (8, AV.ref 2), (9, AV.int IntKind.i64 t9), (10, AV.int IntKind.i64 t10)] [Root.dead, Root.rows 9 Kind.str h1, Root.rows 9 Kind.str h2, Root.rows 4 Kind.bool h3, Root.box 26 [AV.ref 1, AV.ref 2, AV.ref 3], Root.box 26 [AV.nil 9 Kind.str, AV.nil 9 Kind.str, AV.nil 4 Kind.bool]]
theorem s_l7Crash.l0_z (k : Nat) (kept1 : List Int) (t9 : Int) (t10 : Int) (h1 : List ByteArray) (h2 : List ByteArray) (h3 : List Bool) : s_l7Crash.l0 k 0 kept1 t9 t10 h1 h2 h3 = none := by kernel_rfl
theorem s_l7Crash.l0_s (k : Nat) (m : Nat) (kept1 : List Int) (t9 : Int) (t10 : Int) (h1 : List ByteArray) (h2 : List ByteArray) (h3 : List Bool) : s_l7Crash.l0 k (m + 1) kept1 t9 t10 h1 h2 h3 =
 cn (decide (t10 < t9))
 (gd (inb t10 h2.length)
  ((s_l1Has.f k kept1 t10).bind fun d0 =>
   cn d0
   (gd (inb t10 h1.length)
    (gd (inb t10 h2.length)
     (s_l7Crash.l0 k m kept1 t9 (IntKind.i64.wrap (t10 + (1 : Int))) (h1.set t10.toNat (getAt ByteArray.empty h2 t10.toNat)) (h2.set t10.toNat ByteArray.empty) h3)))
   (gd (inb t10 h2.length)
    (s_l7Crash.l0 k m kept1 t9 (IntKind.i64.wrap (t10 + (1 : Int))) h1 (h2.set t10.toNat ByteArray.empty) h3))))
 (some ((((), (), ()), h1, h2, h3))) := by kernel_rfl
theorem s_l7Crash.f_eq (k : Nat) (d_Plate : List ByteArray) (d_Held : List ByteArray) (d_Bad : List Bool) (kept : List Int) : s_l7Crash.f k d_Plate d_Held d_Bad kept =
 s_l7Crash.l0 k k kept ((↑d_Held.length : Int)) ((0 : Int)) d_Plate d_Held d_Bad := (opq_eq _).trans (by kernel_rfl)
abbrev s_l7There.s : Sig := ⟨96, [], [.val, .val], [.agg [.row 9 .str, .row 9 .str, .row 4 .bool], .one (.int .i64)], [.one .bool], [], []⟩
noncomputable def s_l7There.C (k : Nat) : List (Nat × Ctr) := []
noncomputable def s_l7There.f (k : Nat) (d_Plate : List ByteArray) (d_Held : List ByteArray) (d_Bad : List Bool) (at_ : Int) : Option Bool := opq (s_l7There.s.run Try.prog (s_l7There.C k) k ((d_Plate, d_Held, d_Bad), at_))
theorem s_l7There.ok (k : Nat) : CtrOk Try.prog 96 (s_l7There.s.ctr (fun x => s_l7There.f k x.1.1 x.1.2.1 x.1.2.2 x.2)) := sig_ok s_l7There.s .nil (by kernel_rfl) fun _ => opq_eq _
theorem s_l7There.f_eq (k : Nat) (d_Plate : List ByteArray) (d_Held : List ByteArray) (d_Bad : List Bool) (at_ : Int) : s_l7There.f k d_Plate d_Held d_Bad at_ =
 cn (decide ((0 : Int) ≤ at_))
 (some (decide (at_ < (↑d_Plate.length : Int))))
 (some false) := (opq_eq _).trans (by kernel_rfl)
abbrev s_l7Rot.s : Sig := ⟨97, [], [.val, .val], [.one .str, .one .str], [.one .str], [], [(0, [(1,false),(5,true),(6,false)])]⟩
noncomputable def s_l7Rot.C (k : Nat) : List (Nat × Ctr) := []
noncomputable def s_l7Rot.f (k : Nat) (s : ByteArray) (mask : ByteArray) : Option ByteArray := opq (s_l7Rot.s.run Try.prog (s_l7Rot.C k) k (s, mask))
theorem s_l7Rot.ok (k : Nat) : CtrOk Try.prog 97 (s_l7Rot.s.ctr (fun x => s_l7Rot.f k x.1 x.2)) := sig_ok s_l7Rot.s .nil (by kernel_rfl) fun _ => opq_eq _
noncomputable def s_l7Rot.l0 (k : Nat) (m : Nat) (mask1 : ByteArray) (i6 : Int) (h1 : List Int) : Option ByteArray := s_l7Rot.s.head Try.prog (s_l7Rot.C k) k 1 0 [] m [(1, AV.str mask1), (5, AV.ref 1), (6, AV.int IntKind.i64 i6)] [Root.dead, Root.rows 5 (Kind.int IntKind.u8) h1]
theorem s_l7Rot.l0_z (k : Nat) (mask1 : ByteArray) (i6 : Int) (h1 : List Int) : s_l7Rot.l0 k 0 mask1 i6 h1 = none := by kernel_rfl
theorem s_l7Rot.l0_s (k : Nat) (m : Nat) (mask1 : ByteArray) (i6 : Int) (h1 : List Int) : s_l7Rot.l0 k (m + 1) mask1 i6 h1 =
 cn (decide (i6 < (↑mask1.size : Int)))
 (gd (inb i6 h1.length)
  (gd (inb i6 mask1.size)
   (gd (inb i6 h1.length)
    (s_l7Rot.l0 k m mask1 (IntKind.i64.wrap (i6 + (1 : Int))) (h1.set i6.toNat (IntKind.u8.wrap (↑(BitVec.ofInt (8 : Nat) (getAt (0 : Int) h1 i6.toNat) ^^^ BitVec.ofInt (8 : Nat) (↑(mask1.data.getD i6.toNat (0 : UInt8)).toNat : Int)).toNat : Int)))))))
 (some (strOfNums h1)) := by kernel_rfl
theorem s_l7Rot.f_eq (k : Nat) (s : ByteArray) (mask : ByteArray) : s_l7Rot.f k s mask =
 gd (decide (s.size ≤ (70368744177664 : Nat)))
 (s_l7Rot.l0 k k mask ((0 : Int)) (bytesL s)) := (opq_eq _).trans (by kernel_rfl)
abbrev s_l7Step.s : Sig := ⟨78, [.agg 3, .one], [.chg, .chg, .chg, .val], [.one (.row 9 .str), .one (.row 9 .str), .one (.row 4 .bool), .agg [.int .i64, .int .i64, .str, .row 3 (.int .i64)]], [.agg [.arg 1, .arg 2, .arg 3], .one .bool], [.rows 9 .str, .rows 9 .str, .rows 4 .bool], []⟩
noncomputable def s_l7Step.C (k : Nat) : List (Nat × Ctr) := [(24, s_l1In.s.ctr (fun x => s_l1In.f k x.1 x.2.1 x.2.2)), (27, s_l7Crash.s.ctr (fun x => s_l7Crash.f k x.1 x.2.1 x.2.2.1 x.2.2.2)), (29, s_l7Held.s.ctr (fun x => s_l7Held.f k x.1 x.2.1 x.2.2)), (95, s_l7Kept.s.ctr (fun x => s_l7Kept.f k x.1.1 x.1.2.1 x.1.2.2 x.2)), (96, s_l7There.s.ctr (fun x => s_l7There.f k x.1.1 x.1.2.1 x.1.2.2 x.2)), (97, s_l7Rot.s.ctr (fun x => s_l7Rot.f k x.1 x.2))]
noncomputable def s_l7Step.f (k : Nat) (d_Plate : List ByteArray) (d_Held : List ByteArray) (d_Bad : List Bool) (x_Kind : Int) (x_At : Int) (x_Text : ByteArray) (x_Kept : List Int) : Option (((Unit × Unit × Unit) × Bool) × List ByteArray × List ByteArray × List Bool) := opq (s_l7Step.s.run Try.prog (s_l7Step.C k) k (d_Plate, d_Held, d_Bad, (x_Kind, x_At, x_Text, x_Kept)))
theorem s_l7Step.ok (k : Nat) : CtrOk Try.prog 78 (s_l7Step.s.ctr (fun x => s_l7Step.f k x.1 x.2.1 x.2.2.1 x.2.2.2.1 x.2.2.2.2.1 x.2.2.2.2.2.1 x.2.2.2.2.2.2)) := sig_ok s_l7Step.s (.cons (s_l1In.ok k) (.cons (s_l7Crash.ok k) (.cons (s_l7Held.ok k) (.cons (s_l7Kept.ok k) (.cons (s_l7There.ok k) (.cons (s_l7Rot.ok k) .nil)))))) (by kernel_rfl) fun _ => opq_eq _
theorem s_l7Step.f_eq (k : Nat) (d_Plate : List ByteArray) (d_Held : List ByteArray) (d_Bad : List Bool) (x_Kind : Int) (x_At : Int) (x_Text : ByteArray) (x_Kept : List Int) : s_l7Step.f k d_Plate d_Held d_Bad x_Kind x_At x_Text x_Kept =

 let z2 : Option (((Unit × Unit × Unit) × Bool) × List ByteArray × List ByteArray × List Bool) := (s_l7Kept.f k d_Plate d_Held d_Bad x_Kept).bind fun d0 => cn (!d0) (some ((((() , () , ()) , false) , d_Plate, d_Held, d_Bad))) (cn (decide (x_Kind = (2 : Int))) ((s_l7Held.f k d_Plate d_Held d_Bad).bind fun d1 => (s_l7Crash.f k d_Plate d_Held d_Bad d1).bind fun d2 => some ((((() , () , ()) , true) , d2.snd.fst, d2.snd.snd.fst, d2.snd.snd.snd))) ((s_l7Crash.f k d_Plate d_Held d_Bad x_Kept).bind fun d1 => some ((((() , () , ()) , true) , d1.snd.fst, d1.snd.snd.fst, d1.snd.snd.snd))));
 let z5 : Option (((Unit × Unit × Unit) × Bool) × List ByteArray × List ByteArray × List Bool) := cn (!decide (x_At = (0 : Int))) (some ((((() , () , ()) , false) , d_Plate, d_Held, d_Bad))) (cn (!decide (x_Text.toList = ByteArray.empty.toList)) (some ((((() , () , ()) , false) , d_Plate, d_Held, d_Bad))) (cn (decide (x_Kind = (2 : Int))) (cn (decide ((0 : Int) < (↑x_Kept.length : Int))) (some ((((() , () , ()) , false) , d_Plate, d_Held, d_Bad))) z2) z2));
 let z12 : Option (((Unit × Unit × Unit) × Bool) × List ByteArray × List ByteArray × List Bool) := cn (decide (x_Kind = (6 : Int))) (cn (decide (x_Text.toList = ByteArray.empty.toList)) (gd (inb x_At d_Bad.length) (cn (getAt false d_Bad x_At.toNat) (gd (inb x_At d_Bad.length) (gd (inb x_At d_Plate.length) (some ((((() , () , ()) , true) , d_Plate.set x_At.toNat ByteArray.empty, d_Held, d_Bad.set x_At.toNat false))))) (some ((((() , () , ()) , false) , d_Plate, d_Held, d_Bad))))) (some ((((() , () , ()) , false) , d_Plate, d_Held, d_Bad)))) (some ((((() , () , ()) , false) , d_Plate, d_Held, d_Bad)));
 let z13 : Option (((Unit × Unit × Unit) × Bool) × List ByteArray × List ByteArray × List Bool) := cn (decide (x_Text.toList = ByteArray.empty.toList)) (gd (inb x_At d_Bad.length) (gd (inb x_At d_Held.length) (some ((((() , () , ()) , true) , d_Plate, d_Held.set x_At.toNat ByteArray.empty, d_Bad.set x_At.toNat true))))) z12;
 let z23 : Option (((Unit × Unit × Unit) × Bool) × List ByteArray × List ByteArray × List Bool) := cn (decide (x_Kind = (4 : Int))) (gd (inb x_At d_Held.length) (cn (decide ((getAt ByteArray.empty d_Held x_At.toNat).toList = ByteArray.empty.toList)) (gd (inb x_At d_Plate.length) (cn (!decide ((getAt ByteArray.empty d_Plate x_At.toNat).toList = ByteArray.empty.toList)) (gd (inb x_At d_Plate.length) ((s_l1In.f k (↑x_Text.size : Int) (1 : Int) (↑ (getAt ByteArray.empty d_Plate x_At.toNat).size : Int)).bind fun d1 => cn d1 (gd (inb x_At d_Plate.length) ((s_l7Rot.f k (getAt ByteArray.empty d_Plate x_At.toNat) x_Text).bind fun d2 => gd (inb x_At d_Plate.length) (some ((((() , () , ()) , true) , d_Plate.set x_At.toNat d2, d_Held, d_Bad))))) (cn (decide (x_Kind = (5 : Int))) z13 z12))) (cn (decide (x_Kind = (5 : Int))) z13 z12))) (cn (decide (x_Kind = (5 : Int))) z13 z12))) (cn (decide (x_Kind = (5 : Int))) z13 z12);
 cn (decide (x_Kind = (2 : Int))) z5 (cn (decide (x_Kind = (3 : Int))) z5 ((s_l7There.f k d_Plate d_Held d_Bad x_At).bind fun d0 => cn (!d0) (some ((((() , () , ()) , false) , d_Plate, d_Held, d_Bad))) (cn (decide ((0 : Int) < (↑x_Kept.length : Int))) (some ((((() , () , ()) , false) , d_Plate, d_Held, d_Bad))) (cn (decide (x_Kind = (1 : Int))) (gd (inb x_At d_Bad.length) (cn (!getAt false d_Bad x_At.toNat) ((s_l1In.f k (↑x_Text.size : Int) (1 : Int) (28 : Int)).bind fun d1 => cn d1 (gd (inb x_At d_Held.length) (some ((((() , () , ()) , true) , d_Plate, d_Held.set x_At.toNat x_Text, d_Bad)))) (cn (decide (x_Kind = (4 : Int))) (gd (inb x_At d_Held.length) (cn (decide ((getAt ByteArray.empty d_Held x_At.toNat).toList = ByteArray.empty.toList)) (gd (inb x_At d_Plate.length) (cn (!decide ((getAt ByteArray.empty d_Plate x_At.toNat).toList = ByteArray.empty.toList)) (gd (inb x_At d_Plate.length) ((s_l1In.f k (↑x_Text.size : Int) (1 : Int) (↑ (getAt ByteArray.empty d_Plate x_At.toNat).size : Int)).bind fun d2 => cn d2 (gd (inb x_At d_Plate.length) ((s_l7Rot.f k (getAt ByteArray.empty d_Plate x_At.toNat) x_Text).bind fun d3 => gd (inb x_At d_Plate.length) (some ((((() , () , ()) , true) , d_Plate.set x_At.toNat d3, d_Held, d_Bad))))) (cn (decide (x_Kind = (5 : Int))) z13 z12))) (cn (decide (x_Kind = (5 : Int))) z13 z12))) (cn (decide (x_Kind = (5 : Int))) z13 z12))) (cn (decide (x_Kind = (5 : Int))) z13 z12))) z23)) z23)))) := (opq_eq _).trans (by kernel_rfl)
abbrev s_l8Put.s : Sig := ⟨57, [.agg 3, .one, .one, .one], [.chg, .chg, .chg, .val, .val, .val], [.one (.row 9 .str), .one (.row 9 .str), .one (.row 4 .bool), .one (.int .i64), .one (.int .i64), .one (.row 3 (.int .i64))], [.agg [.arg 1, .arg 2, .arg 3], .one .bool], [.rows 9 .str, .rows 9 .str, .rows 4 .bool], []⟩
noncomputable def s_l8Put.C (k : Nat) : List (Nat × Ctr) := [(76, s_l6Frame.s.ctr (fun x => s_l6Frame.f k x.1 x.2.1 x.2.2.1 x.2.2.2)), (77, s_l8Text.s.ctr (fun x => s_l8Text.f k x)), (78, s_l7Step.s.ctr (fun x => s_l7Step.f k x.1 x.2.1 x.2.2.1 x.2.2.2.1 x.2.2.2.2.1 x.2.2.2.2.2.1 x.2.2.2.2.2.2))]
noncomputable def s_l8Put.f (k : Nat) (d_Plate : List ByteArray) (d_Held : List ByteArray) (d_Bad : List Bool) (at_ : Int) (epoch : Int) (p : List Int) : Option (((Unit × Unit × Unit) × Bool) × List ByteArray × List ByteArray × List Bool) := opq (s_l8Put.s.run Try.prog (s_l8Put.C k) k (d_Plate, d_Held, d_Bad, at_, epoch, p))
theorem s_l8Put.ok (k : Nat) : CtrOk Try.prog 57 (s_l8Put.s.ctr (fun x => s_l8Put.f k x.1 x.2.1 x.2.2.1 x.2.2.2.1 x.2.2.2.2.1 x.2.2.2.2.2)) := sig_ok s_l8Put.s (.cons (s_l6Frame.ok k) (.cons (s_l8Text.ok k) (.cons (s_l7Step.ok k) .nil))) (by kernel_rfl) fun _ => opq_eq _
theorem s_l8Put.f_eq (k : Nat) (d_Plate : List ByteArray) (d_Held : List ByteArray) (d_Bad : List Bool) (at_ : Int) (epoch : Int) (p : List Int) : s_l8Put.f k d_Plate d_Held d_Bad at_ epoch p =
 (s_l8Text.f k p).bind fun d0 =>
 (s_l6Frame.f k (2 : Int) at_ epoch d0).bind fun d1 =>
 (s_l7Step.f k d_Plate d_Held d_Bad (1 : Int) at_ d1 []).bind fun d2 =>
 some (((((), (), ()), d2.fst.snd), d2.snd.fst, d2.snd.snd.fst, d2.snd.snd.snd)) := (opq_eq _).trans (by kernel_rfl)
abbrev s_WriteStripe.s : Sig := ⟨26, [], [.val, .val, .val, .val], [.agg [.row 9 .str, .row 9 .str, .row 4 .bool], .one (.int .i64), .one (.int .i64), .one .str], [.agg [.own 9 .str, .own 9 .str, .own 4 .bool], .one .bool], [], [(0, [(1,false),(2,false),(8,false),(10,false),(38,true),(39,false),(40,false)])]⟩
noncomputable def s_WriteStripe.C (k : Nat) : List (Nat × Ctr) := [(24, s_l1In.s.ctr (fun x => s_l1In.f k x.1 x.2.1 x.2.2)), (28, s_l7Own.s.ctr (fun x => s_l7Own.f k x.1 x.2.1 x.2.2)), (54, s_GoodDisk.s.ctr (fun x => s_GoodDisk.f k x.1 x.2.1 x.2.2)), (55, s_l8Fits.s.ctr (fun x => s_l8Fits.f k x.1.1 x.1.2.1 x.1.2.2 x.2)), (56, s_l8Pieces.s.ctr (fun x => s_l8Pieces.f k x)), (57, s_l8Put.s.ctr (fun x => s_l8Put.f k x.1 x.2.1 x.2.2.1 x.2.2.2.1 x.2.2.2.2.1 x.2.2.2.2.2))]
noncomputable def s_WriteStripe.f (k : Nat) (d_Plate : List ByteArray) (d_Held : List ByteArray) (d_Bad : List Bool) (at_ : Int) (epoch : Int) (text : ByteArray) : Option ((List ByteArray × List ByteArray × List Bool) × Bool) := opq (s_WriteStripe.s.run Try.prog (s_WriteStripe.C k) k ((d_Plate, d_Held, d_Bad), at_, epoch, text))
theorem s_WriteStripe.ok (k : Nat) : CtrOk Try.prog 26 (s_WriteStripe.s.ctr (fun x => s_WriteStripe.f k x.1.1 x.1.2.1 x.1.2.2 x.2.1 x.2.2.1 x.2.2.2)) := sig_ok s_WriteStripe.s (.cons (s_l1In.ok k) (.cons (s_l7Own.ok k) (.cons (s_GoodDisk.ok k) (.cons (s_l8Fits.ok k) (.cons (s_l8Pieces.ok k) (.cons (s_l8Put.ok k) .nil)))))) (by kernel_rfl) fun _ => opq_eq _
noncomputable def s_WriteStripe.l0 (k : Nat) (m : Nat) (at1 : Int) (epoch2 : Int) (t39 : Int) (t40 : Int) (h2 : List ByteArray) (h3 : List ByteArray) (h4 : List Bool) (h6 : List (List Int)) : Option ((List ByteArray × List ByteArray × List Bool) × Bool) := s_WriteStripe.s.head Try.prog (s_WriteStripe.C k) k 1 0 [] m [(1, AV.int IntKind.i64 at1), (2, AV.int IntKind.i64 epoch2), (8, AV.ptr 1 0 0), (10, AV.ptr 5 0 0), (38, AV.ref 6), (39, AV.int IntKind.i64 t39), (40, AV.int IntKind.i64 t40)] [Root.dead, Root.box 26 [AV.nil 9 Kind.str, AV.nil 9 Kind.str, AV.nil 4 Kind.bool], Root.rows 9 Kind.str h2, Root.rows 9 Kind.str h3, Root.rows 4 Kind.bool h4, Root.box 26 [AV.ref 2, AV.ref 3, AV.ref 4], Root.rows 27 (Kind.sl 3 (Kind.int IntKind.i64)) h6]
theorem s_WriteStripe.l0_z (k : Nat) (at1 : Int) (epoch2 : Int) (t39 : Int) (t40 : Int) (h2 : List ByteArray) (h3 : List ByteArray) (h4 : List Bool) (h6 : List (List Int)) : s_WriteStripe.l0 k 0 at1 epoch2 t39 t40 h2 h3 h4 h6 = none := by kernel_rfl
theorem s_WriteStripe.l0_s (k : Nat) (m : Nat) (at1 : Int) (epoch2 : Int) (t39 : Int) (t40 : Int) (h2 : List ByteArray) (h3 : List ByteArray) (h4 : List Bool) (h6 : List (List Int)) : s_WriteStripe.l0 k (m + 1) at1 epoch2 t39 t40 h2 h3 h4 h6 =
 cn (decide (t40 < t39))
 (gd (inb t40 h6.length)
  ((s_l8Put.f k h2 h3 h4 (IntKind.i64.wrap (at1 + t40)) epoch2 (getAt [] h6 t40.toNat)).bind fun d1 =>
   cn (!d1.fst.snd)
   (some ((([], [], []), false)))
   (s_WriteStripe.l0 k m at1 epoch2 t39 (IntKind.i64.wrap (t40 + (1 : Int))) d1.snd.fst d1.snd.snd.fst d1.snd.snd.snd h6)))
 (some (((h2, h3, h4), true))) := by kernel_rfl
theorem s_WriteStripe.f_eq (k : Nat) (d_Plate : List ByteArray) (d_Held : List ByteArray) (d_Bad : List Bool) (at_ : Int) (epoch : Int) (text : ByteArray) : s_WriteStripe.f k d_Plate d_Held d_Bad at_ epoch text =
 (s_GoodDisk.f k d_Plate d_Held d_Bad).bind fun d0 =>
 cn (!d0)
 (some ((([], [], []), false)))
 ((s_l8Fits.f k d_Plate d_Held d_Bad at_).bind fun d1 =>
  cn (!d1)
  (some ((([], [], []), false)))
  ((s_l1In.f k epoch (0 : Int) (60000 : Int)).bind fun d2 =>
   cn (!d2)
   (some ((([], [], []), false)))
   (cn (decide ((47 : Int) < (↑text.size : Int)))
    (some ((([], [], []), false)))
    ((s_l7Own.f k d_Plate d_Held d_Bad).bind fun d3 =>
     (s_l8Pieces.f k text).bind fun d4 =>
     s_WriteStripe.l0 k k at_ epoch ((↑(List.length d4) : Int)) ((0 : Int)) d3.fst d3.snd.fst d3.snd.snd d4)))) := (opq_eq _).trans (by kernel_rfl)
abbrev s_NewScrub.s : Sig := ⟨7, [], [.val], [.one (.row 9 .str)], [.agg [.own 9 .str, .own 9 .str, .own 4 .bool, .own 3 (.int .i64), .int .i64, .int .i64], .one .bool], [], [(0, [(2,false),(5,true),(6,false),(24,true),(25,false),(26,false)])]⟩
noncomputable def s_NewScrub.C (k : Nat) : List (Nat × Ctr) := [(24, s_l1In.s.ctr (fun x => s_l1In.f k x.1 x.2.1 x.2.2)), (25, s_NewDisk.s.ctr (fun x => s_NewDisk.f k x)), (26, s_WriteStripe.s.ctr (fun x => s_WriteStripe.f k x.1.1 x.1.2.1 x.1.2.2 x.2.1 x.2.2.1 x.2.2.2)), (27, s_l7Crash.s.ctr (fun x => s_l7Crash.f k x.1 x.2.1 x.2.2.1 x.2.2.2)), (28, s_l7Own.s.ctr (fun x => s_l7Own.f k x.1 x.2.1 x.2.2)), (29, s_l7Held.s.ctr (fun x => s_l7Held.f k x.1 x.2.1 x.2.2))]
noncomputable def s_NewScrub.f (k : Nat) (texts : List ByteArray) : Option ((List ByteArray × List ByteArray × List Bool × List Int × Int × Int) × Bool) := opq (s_NewScrub.s.run Try.prog (s_NewScrub.C k) k texts)
theorem s_NewScrub.ok (k : Nat) : CtrOk Try.prog 7 (s_NewScrub.s.ctr (fun x => s_NewScrub.f k x)) := sig_ok s_NewScrub.s (.cons (s_l1In.ok k) (.cons (s_NewDisk.ok k) (.cons (s_WriteStripe.ok k) (.cons (s_l7Crash.ok k) (.cons (s_l7Own.ok k) (.cons (s_l7Held.ok k) .nil)))))) (by kernel_rfl) fun _ => opq_eq _
noncomputable def s_NewScrub.l0 (k : Nat) (m : Nat) (t24 : List ByteArray) (t25 : Int) (t26 : Int) (h1 : Int) (h1_ : Int) (h2 : List ByteArray) (h3 : List ByteArray) (h4 : List Bool) (h5 : List Int) (h6 : Int) (h6_ : Int) (h7 : List ByteArray) (h8 : List ByteArray) (h9 : List Bool) : Option ((List ByteArray × List ByteArray × List Bool × List Int × Int × Int) × Bool) := s_NewScrub.s.head Try.prog (s_NewScrub.C k) k 1 0 [] m [(2, AV.ptr 1 0 0), (5, AV.ptr 6 0 0), (6, AV.ptr 10 0 0), (24, AV.row 9 Kind.str t24), (25, AV.int IntKind.i64 t25), (26, AV.int IntKind.i64 t26)] [Root.dead, Root.box 29 [AV.nil 9 Kind.str, AV.nil 9 Kind.str, AV.nil 4 Kind.bool, AV.nil 3 (Kind.int IntKind.i64), AV.int IntKind.i64 h1, AV.int IntKind.i64 h1_], Root.rows 9 Kind.str h2, Root.rows 9 Kind.str h3, Root.rows 4 Kind.bool h4, Root.rows 3 (Kind.int IntKind.i64) h5, Root.box 29 [AV.ref 2, AV.ref 3, AV.ref 4, AV.ref 5, AV.int IntKind.i64 h6, AV.int IntKind.i64 h6_], Root.rows 9 Kind.str h7, Root.rows 9 Kind.str h8, Root.rows 4 Kind.bool h9, Root.box 26 [AV.ref 7, AV.ref 8, AV.ref 9]]
theorem s_NewScrub.l0_z (k : Nat) (t24 : List ByteArray) (t25 : Int) (t26 : Int) (h1 : Int) (h1_ : Int) (h2 : List ByteArray) (h3 : List ByteArray) (h4 : List Bool) (h5 : List Int) (h6 : Int) (h6_ : Int) (h7 : List ByteArray) (h8 : List ByteArray) (h9 : List Bool) : s_NewScrub.l0 k 0 t24 t25 t26 h1 h1_ h2 h3 h4 h5 h6 h6_ h7 h8 h9 = none := by kernel_rfl
theorem s_NewScrub.l0_s (k : Nat) (m : Nat) (t24 : List ByteArray) (t25 : Int) (t26 : Int) (h1 : Int) (h1_ : Int) (h2 : List ByteArray) (h3 : List ByteArray) (h4 : List Bool) (h5 : List Int) (h6 : Int) (h6_ : Int) (h7 : List ByteArray) (h8 : List ByteArray) (h9 : List Bool) : s_NewScrub.l0 k (m + 1) t24 t25 t26 h1 h1_ h2 h3 h4 h5 h6 h6_ h7 h8 h9 =
 cn (decide (t26 < t25))
 (gd (inb t26 t24.length)
  ((s_WriteStripe.f k h7 h8 h9 (IntKind.i64.wrap ((5 : Int) * t26)) (1 : Int) (getAt ByteArray.empty t24 t26.toNat)).bind fun d1 =>
   cn (!d1.snd)
   (some ((([], [], [], [], (0 : Int), (0 : Int)), false)))
   (gd (appOk (h5.length + (1 : Nat)) (Try.prog.bytesOf (3 : Nat)))
    (s_NewScrub.l0 k m t24 t25 (IntKind.i64.wrap (t26 + (1 : Int))) h1 h1_ h2 h3 h4 (h5 ++ [(1 : Int)]) h6 h6_ d1.fst.fst d1.fst.snd.fst d1.fst.snd.snd))))
 ((s_l7Own.f k h7 h8 h9).bind fun d1 =>
  (s_l7Held.f k h7 h8 h9).bind fun d2 =>
  (s_l7Crash.f k d1.fst d1.snd.fst d1.snd.snd d2).bind fun d3 =>
  some (((d3.snd.fst, d3.snd.snd.fst, d3.snd.snd.snd, h5, h6, h6_), true))) := by kernel_rfl
theorem s_NewScrub.f_eq (k : Nat) (texts : List ByteArray) : s_NewScrub.f k texts =
 (s_l1In.f k (↑texts.length : Int) (1 : Int) (4 : Int)).bind fun d0 =>
 cn (!d0)
 (some ((([], [], [], [], (0 : Int), (0 : Int)), false)))
 ((s_NewDisk.f k (IntKind.i64.wrap ((5 : Int) * (↑texts.length : Int)))).bind fun d1 =>
  s_NewScrub.l0 k k texts ((↑texts.length : Int)) ((0 : Int)) ((0 : Int)) ((0 : Int)) ([]) ([]) ([]) ([]) ((0 : Int)) ((0 : Int)) d1.fst.fst d1.fst.snd.fst d1.fst.snd.snd) := (opq_eq _).trans (by kernel_rfl)
abbrev s_NewStore.s : Sig := ⟨15, [], [.val], [.one (.int .i64)], [.agg [.own 9 .str, .own 9 .str, .own 4 .bool, .own 3 (.int .i64), .int .i64, .int .i64, .own 27 (.sl 3 (.int .i64)), .own 3 (.int .i64)], .one .bool], [], []⟩
noncomputable def s_NewStore.C (k : Nat) : List (Nat × Ctr) := [(24, s_l1In.s.ctr (fun x => s_l1In.f k x.1 x.2.1 x.2.2)), (7, s_NewScrub.s.ctr (fun x => s_NewScrub.f k x))]
noncomputable def s_NewStore.f (k : Nat) (stripes : Int) : Option ((List ByteArray × List ByteArray × List Bool × List Int × Int × Int × List (List Int) × List Int) × Bool) := opq (s_NewStore.s.run Try.prog (s_NewStore.C k) k stripes)
theorem s_NewStore.ok (k : Nat) : CtrOk Try.prog 15 (s_NewStore.s.ctr (fun x => s_NewStore.f k x)) := sig_ok s_NewStore.s (.cons (s_l1In.ok k) (.cons (s_NewScrub.ok k) .nil)) (by kernel_rfl) fun _ => opq_eq _
theorem s_NewStore.f_eq (k : Nat) (stripes : Int) : s_NewStore.f k stripes =
 (s_l1In.f k stripes (1 : Int) (4 : Int)).bind fun d0 =>
 cn (!d0)
 (some ((([], [], [], [], (0 : Int), (0 : Int), [], []), false)))
 (gd (mkOk stripes stripes (Try.prog.bytesOf (9 : Nat)))
  ((s_NewScrub.f k (List.replicate stripes.toNat ByteArray.empty)).bind fun d1 =>
   some (((d1.fst.fst, d1.fst.snd.fst, d1.fst.snd.snd.fst, d1.fst.snd.snd.snd.fst, d1.fst.snd.snd.snd.snd.fst, d1.fst.snd.snd.snd.snd.snd, [List.replicate (5 : Nat) (0 : Int)], []), d1.snd)))) := (opq_eq _).trans (by kernel_rfl)
abbrev i_within.s : Sig := ⟨30, [], [.val, .val, .val], [.one (.int .i64), .one (.int .i64), .one (.int .i64)], [.one .bool], [], []⟩
noncomputable def i_within.C (k : Nat) : List (Nat × Ctr) := []
noncomputable def i_within.f (k : Nat) (n : Int) (low : Int) (high : Int) : Option Bool := opq (i_within.s.run Try.prog (i_within.C k) k (n, low, high))
theorem i_within.ok (k : Nat) : CtrOk Try.prog 30 (i_within.s.ctr (fun x => i_within.f k x.1 x.2.1 x.2.2)) := sig_ok i_within.s .nil (by kernel_rfl) fun _ => opq_eq _
theorem i_within.f_eq (k : Nat) (n : Int) (low : Int) (high : Int) : i_within.f k n low high =
 cn (decide (low ≤ n))
 (some (decide (n ≤ high)))
 (some false) := (opq_eq _).trans (by kernel_rfl)
abbrev i_NewDisk.s : Sig := ⟨31, [], [.val], [.one (.int .i64)], [.agg [.own 9 .str, .own 9 .str, .own 4 .bool], .one .bool], [], []⟩
noncomputable def i_NewDisk.C (k : Nat) : List (Nat × Ctr) := [(30, i_within.s.ctr (fun x => i_within.f k x.1 x.2.1 x.2.2))]
noncomputable def i_NewDisk.f (k : Nat) (sectors : Int) : Option ((List ByteArray × List ByteArray × List Bool) × Bool) := opq (i_NewDisk.s.run Try.prog (i_NewDisk.C k) k sectors)
theorem i_NewDisk.ok (k : Nat) : CtrOk Try.prog 31 (i_NewDisk.s.ctr (fun x => i_NewDisk.f k x)) := sig_ok i_NewDisk.s (.cons (i_within.ok k) .nil) (by kernel_rfl) fun _ => opq_eq _
theorem i_NewDisk.f_eq (k : Nat) (sectors : Int) : i_NewDisk.f k sectors =
 (i_within.f k sectors (1 : Int) (24 : Int)).bind fun d0 =>
 cn (!d0)
 (some ((([], [], []), false)))
 (both
  (gd (mkOk sectors sectors (Try.prog.bytesOf (9 : Nat)))
   (both
    (gd (mkOk sectors sectors (Try.prog.bytesOf (9 : Nat)))
     (gd (mkOk sectors sectors (Try.prog.bytesOf (4 : Nat)))
      (some (((List.replicate sectors.toNat ByteArray.empty, List.replicate sectors.toNat ByteArray.empty, List.replicate sectors.toNat false), true)))))
    (gd (mkOk sectors sectors (Try.prog.bytesOf (4 : Nat)))
     (gd (mkOk sectors sectors (Try.prog.bytesOf (9 : Nat)))
      (some (((List.replicate sectors.toNat ByteArray.empty, List.replicate sectors.toNat ByteArray.empty, List.replicate sectors.toNat false), true)))))))
  (both
   (gd (mkOk sectors sectors (Try.prog.bytesOf (9 : Nat)))
    (both
     (gd (mkOk sectors sectors (Try.prog.bytesOf (9 : Nat)))
      (gd (mkOk sectors sectors (Try.prog.bytesOf (4 : Nat)))
       (some (((List.replicate sectors.toNat ByteArray.empty, List.replicate sectors.toNat ByteArray.empty, List.replicate sectors.toNat false), true)))))
     (gd (mkOk sectors sectors (Try.prog.bytesOf (4 : Nat)))
      (gd (mkOk sectors sectors (Try.prog.bytesOf (9 : Nat)))
       (some (((List.replicate sectors.toNat ByteArray.empty, List.replicate sectors.toNat ByteArray.empty, List.replicate sectors.toNat false), true)))))))
   (gd (mkOk sectors sectors (Try.prog.bytesOf (4 : Nat)))
    (dup
     (gd (mkOk sectors sectors (Try.prog.bytesOf (9 : Nat)))
      (gd (mkOk sectors sectors (Try.prog.bytesOf (9 : Nat)))
       (some (((List.replicate sectors.toNat ByteArray.empty, List.replicate sectors.toNat ByteArray.empty, List.replicate sectors.toNat false), true))))))))) := (opq_eq _).trans (by kernel_rfl)
abbrev i_firstOf.s : Sig := ⟨33, [], [.val], [.one (.int .i64)], [.one (.int .i64)], [], []⟩
noncomputable def i_firstOf.C (k : Nat) : List (Nat × Ctr) := []
noncomputable def i_firstOf.f (k : Nat) (k_ : Int) : Option Int := opq (i_firstOf.s.run Try.prog (i_firstOf.C k) k k_)
theorem i_firstOf.ok (k : Nat) : CtrOk Try.prog 33 (i_firstOf.s.ctr (fun x => i_firstOf.f k x)) := sig_ok i_firstOf.s .nil (by kernel_rfl) fun _ => opq_eq _
theorem i_firstOf.f_eq (k : Nat) (k_ : Int) : i_firstOf.f k k_ =
 some (IntKind.i64.wrap ((5 : Int) * k_)) := (opq_eq _).trans (by kernel_rfl)
abbrev i_GoodDisk.s : Sig := ⟨79, [], [.val], [.agg [.row 9 .str, .row 9 .str, .row 4 .bool]], [.one .bool], [], [(0, [(1,false),(27,true),(28,false),(29,false)])]⟩
noncomputable def i_GoodDisk.C (k : Nat) : List (Nat × Ctr) := [(30, i_within.s.ctr (fun x => i_within.f k x.1 x.2.1 x.2.2))]
noncomputable def i_GoodDisk.f (k : Nat) (d_Plate : List ByteArray) (d_Held : List ByteArray) (d_Bad : List Bool) : Option Bool := opq (i_GoodDisk.s.run Try.prog (i_GoodDisk.C k) k (d_Plate, d_Held, d_Bad))
theorem i_GoodDisk.ok (k : Nat) : CtrOk Try.prog 79 (i_GoodDisk.s.ctr (fun x => i_GoodDisk.f k x.1 x.2.1 x.2.2)) := sig_ok i_GoodDisk.s (.cons (i_within.ok k) .nil) (by kernel_rfl) fun _ => opq_eq _
noncomputable def i_GoodDisk.l0 (k : Nat) (m : Nat) (t27 : List ByteArray) (t28 : Int) (t29 : Int) (h1 : List ByteArray) (h1_ : List ByteArray) (h1__ : List Bool) : Option Bool := i_GoodDisk.s.head Try.prog (i_GoodDisk.C k) k 1 0 [] m [(1, AV.ptr 1 0 0), (27, AV.row 9 Kind.str t27), (28, AV.int IntKind.i64 t28), (29, AV.int IntKind.i64 t29)] [Root.dead, Root.box 26 [AV.row 9 Kind.str h1, AV.row 9 Kind.str h1_, AV.row 4 Kind.bool h1__]]
theorem i_GoodDisk.l0_z (k : Nat) (t27 : List ByteArray) (t28 : Int) (t29 : Int) (h1 : List ByteArray) (h1_ : List ByteArray) (h1__ : List Bool) : i_GoodDisk.l0 k 0 t27 t28 t29 h1 h1_ h1__ = none := by kernel_rfl
theorem i_GoodDisk.l0_s (k : Nat) (m : Nat) (t27 : List ByteArray) (t28 : Int) (t29 : Int) (h1 : List ByteArray) (h1_ : List ByteArray) (h1__ : List Bool) : i_GoodDisk.l0 k (m + 1) t27 t28 t29 h1 h1_ h1__ =
 cn (decide (t29 < t28))
 (gd (inb t29 t27.length)
  (cn (decide ((28 : Int) < (↑(getAt ByteArray.empty t27 t29.toNat).size : Int)))
   (some false)
   (gd (inb t29 h1_.length)
    (cn (decide ((28 : Int) < (↑(getAt ByteArray.empty h1_ t29.toNat).size : Int)))
     (some false)
     (gd (inb t29 h1__.length)
      (cn (getAt false h1__ t29.toNat)
       (gd (inb t29 h1_.length)
        (cn (!decide ((getAt ByteArray.empty h1_ t29.toNat).toList = ByteArray.empty.toList))
         (some false)
         (i_GoodDisk.l0 k m t27 t28 (IntKind.i64.wrap (t29 + (1 : Int))) h1 h1_ h1__)))
       (i_GoodDisk.l0 k m t27 t28 (IntKind.i64.wrap (t29 + (1 : Int))) h1 h1_ h1__)))))))
 (some true) := by kernel_rfl
theorem i_GoodDisk.f_eq (k : Nat) (d_Plate : List ByteArray) (d_Held : List ByteArray) (d_Bad : List Bool) : i_GoodDisk.f k d_Plate d_Held d_Bad =
 (i_within.f k (↑d_Plate.length : Int) (1 : Int) (24 : Int)).bind fun d0 =>
 cn (!d0)
 (some false)
 (cn (!decide ((↑d_Held.length : Int) = (↑d_Plate.length : Int)))
  (some false)
  (cn (!decide ((↑d_Bad.length : Int) = (↑d_Plate.length : Int)))
   (some false)
   (i_GoodDisk.l0 k k d_Plate ((↑d_Plate.length : Int)) ((0 : Int)) d_Plate d_Held d_Bad))) := (opq_eq _).trans (by kernel_rfl)
abbrev i_fits.s : Sig := ⟨59, [], [.val, .val], [.agg [.row 9 .str, .row 9 .str, .row 4 .bool], .one (.int .i64)], [.one .bool], [], []⟩
noncomputable def i_fits.C (k : Nat) : List (Nat × Ctr) := [(30, i_within.s.ctr (fun x => i_within.f k x.1 x.2.1 x.2.2)), (79, i_GoodDisk.s.ctr (fun x => i_GoodDisk.f k x.1 x.2.1 x.2.2))]
noncomputable def i_fits.f (k : Nat) (d_Plate : List ByteArray) (d_Held : List ByteArray) (d_Bad : List Bool) (at_ : Int) : Option Bool := opq (i_fits.s.run Try.prog (i_fits.C k) k ((d_Plate, d_Held, d_Bad), at_))
theorem i_fits.ok (k : Nat) : CtrOk Try.prog 59 (i_fits.s.ctr (fun x => i_fits.f k x.1.1 x.1.2.1 x.1.2.2 x.2)) := sig_ok i_fits.s (.cons (i_within.ok k) (.cons (i_GoodDisk.ok k) .nil)) (by kernel_rfl) fun _ => opq_eq _
theorem i_fits.f_eq (k : Nat) (d_Plate : List ByteArray) (d_Held : List ByteArray) (d_Bad : List Bool) (at_ : Int) : i_fits.f k d_Plate d_Held d_Bad at_ =
 (i_GoodDisk.f k d_Plate d_Held d_Bad).bind fun d0 =>
 cn d0
 ((i_within.f k at_ (0 : Int) (IntKind.i64.wrap ((↑d_Plate.length : Int) - (5 : Int)))).bind fun d1 =>
  some d1)
 (some false) := (opq_eq _).trans (by kernel_rfl)
abbrev strings_Repeat.s : Sig := ⟨80, [], [.val, .val], [.one .str, .one (.int .i64)], [.one .str], [], [(3, [(7,false),(8,false),(9,false)])]⟩
noncomputable def strings_Repeat.f (k : Nat) (s : ByteArray) (count : Int) : Option ByteArray := repF s count
theorem strings_Repeat.ok (k : Nat) : CtrOk Try.prog 80 (strings_Repeat.s.ctr fun x => strings_Repeat.f k x.1 x.2) := rep_ctr
abbrev i_identity.s : Sig := ⟨122, [], [.val], [.one (.int .i64)], [.one (.own 27 (.sl 3 (.int .i64)))], [], [(0, [(0,false),(3,true),(7,false),(8,false)])]⟩
noncomputable def i_identity.C (k : Nat) : List (Nat × Ctr) := []
noncomputable def i_identity.f (k : Nat) (n : Int) : Option (List (List Int)) := opq (i_identity.s.run Try.prog (i_identity.C k) k n)
theorem i_identity.ok (k : Nat) : CtrOk Try.prog 122 (i_identity.s.ctr (fun x => i_identity.f k x)) := sig_ok i_identity.s .nil (by kernel_rfl) fun _ => opq_eq _
noncomputable def i_identity.l0 (k : Nat) (m : Nat) (n0 : Int) (t7 : Int) (t8 : Int) (h1 : List (List Int)) : Option (List (List Int)) := i_identity.s.head Try.prog (i_identity.C k) k 1 0 [] m [(0, AV.int IntKind.i64 n0), (3, AV.ref 1), (7, AV.int IntKind.i64 t7), (8, AV.int IntKind.i64 t8)] [Root.dead, Root.rows 27 (Kind.sl 3 (Kind.int IntKind.i64)) h1]
theorem i_identity.l0_z (k : Nat) (n0 : Int) (t7 : Int) (t8 : Int) (h1 : List (List Int)) : i_identity.l0 k 0 n0 t7 t8 h1 = none := by kernel_rfl
theorem i_identity.l0_s (k : Nat) (m : Nat) (n0 : Int) (t7 : Int) (t8 : Int) (h1 : List (List Int)) : i_identity.l0 k (m + 1) n0 t7 t8 h1 =
 cn (decide (t8 < t7))
 (gd (mkOk n0 n0 (Try.prog.bytesOf (3 : Nat)))
  (gd (inb t8 (List.replicate n0.toNat (0 : Int)).length)
   (gd (appOk (h1.length + (1 : Nat)) (Try.prog.bytesOf (27 : Nat)))
    (i_identity.l0 k m n0 t7 (IntKind.i64.wrap (t8 + (1 : Int))) (h1 ++ [(List.replicate n0.toNat (0 : Int)).set t8.toNat (1 : Int)])))))
 (some h1) := by kernel_rfl
theorem i_identity.f_eq (k : Nat) (n : Int) : i_identity.f k n =
 i_identity.l0 k k n n ((0 : Int)) ([]) := (opq_eq _).trans (by kernel_rfl)
abbrev i_mul.s : Sig := ⟨121, [], [.val, .val], [.one (.int .i64), .one (.int .i64)], [.one (.int .i64)], [], [(0, [(0,false),(1,false),(5,false)])]⟩
noncomputable def i_mul.C (k : Nat) : List (Nat × Ctr) := []
noncomputable def i_mul.f (k : Nat) (a : Int) (b : Int) : Option Int := opq (i_mul.s.run Try.prog (i_mul.C k) k (a, b))
theorem i_mul.ok (k : Nat) : CtrOk Try.prog 121 (i_mul.s.ctr (fun x => i_mul.f k x.1 x.2)) := sig_ok i_mul.s .nil (by kernel_rfl) fun _ => opq_eq _
noncomputable def i_mul.l0 (k : Nat) (m : Nat) (a0 : Int) (b1 : Int) (out5 : Int) : Option Int := i_mul.s.head Try.prog (i_mul.C k) k 1 0 [] m [(0, AV.int IntKind.i64 a0), (1, AV.int IntKind.i64 b1), (5, AV.int IntKind.i64 out5)] [Root.dead]
theorem i_mul.l0_z (k : Nat) (a0 : Int) (b1 : Int) (out5 : Int) : i_mul.l0 k 0 a0 b1 out5 = none := by kernel_rfl
theorem i_mul.l0_s (k : Nat) (m : Nat) (a0 : Int) (b1 : Int) (out5 : Int) : i_mul.l0 k (m + 1) a0 b1 out5 =
 cn (decide ((0 : Int) < b1))
 (cn (decide (IntKind.i64.wrap (↑(BitVec.ofInt (64 : Nat) b1 &&& BitVec.ofInt (64 : Nat) (1 : Int)).toNat : Int) = (1 : Int)))
  (cn (decide ((256 : Int) ≤ IntKind.i64.wrap (a0 * (2 : Int) ^ (1 : Nat))))
   (i_mul.l0 k m (IntKind.i64.wrap (↑(BitVec.ofInt (64 : Nat) (IntKind.i64.wrap (a0 * (2 : Int) ^ (1 : Nat))) ^^^ BitVec.ofInt (64 : Nat) (285 : Int)).toNat : Int)) (b1.fdiv ((2 : Int) ^ (1 : Nat))) (IntKind.i64.wrap (↑(BitVec.ofInt (64 : Nat) out5 ^^^ BitVec.ofInt (64 : Nat) a0).toNat : Int)))
   (i_mul.l0 k m (IntKind.i64.wrap (a0 * (2 : Int) ^ (1 : Nat))) (b1.fdiv ((2 : Int) ^ (1 : Nat))) (IntKind.i64.wrap (↑(BitVec.ofInt (64 : Nat) out5 ^^^ BitVec.ofInt (64 : Nat) a0).toNat : Int))))
  (cn (decide ((256 : Int) ≤ IntKind.i64.wrap (a0 * (2 : Int) ^ (1 : Nat))))
   (i_mul.l0 k m (IntKind.i64.wrap (↑(BitVec.ofInt (64 : Nat) (IntKind.i64.wrap (a0 * (2 : Int) ^ (1 : Nat))) ^^^ BitVec.ofInt (64 : Nat) (285 : Int)).toNat : Int)) (b1.fdiv ((2 : Int) ^ (1 : Nat))) out5)
   (i_mul.l0 k m (IntKind.i64.wrap (a0 * (2 : Int) ^ (1 : Nat))) (b1.fdiv ((2 : Int) ^ (1 : Nat))) out5)))
 (some out5) := by kernel_rfl
theorem i_mul.f_eq (k : Nat) (a : Int) (b : Int) : i_mul.f k a b =
 i_mul.l0 k k a b ((0 : Int)) := (opq_eq _).trans (by kernel_rfl)
abbrev i_pow.s : Sig := ⟨132, [], [.val, .val], [.one (.int .i64), .one (.int .i64)], [.one (.int .i64)], [], [(0, [(0,false),(1,false),(5,false)])]⟩
noncomputable def i_pow.C (k : Nat) : List (Nat × Ctr) := [(121, i_mul.s.ctr (fun x => i_mul.f k x.1 x.2))]
noncomputable def i_pow.f (k : Nat) (a : Int) (n : Int) : Option Int := opq (i_pow.s.run Try.prog (i_pow.C k) k (a, n))
theorem i_pow.ok (k : Nat) : CtrOk Try.prog 132 (i_pow.s.ctr (fun x => i_pow.f k x.1 x.2)) := sig_ok i_pow.s (.cons (i_mul.ok k) .nil) (by kernel_rfl) fun _ => opq_eq _
noncomputable def i_pow.l0 (k : Nat) (m : Nat) (a0 : Int) (n1 : Int) (out5 : Int) : Option Int := i_pow.s.head Try.prog (i_pow.C k) k 1 0 [] m [(0, AV.int IntKind.i64 a0), (1, AV.int IntKind.i64 n1), (5, AV.int IntKind.i64 out5)] [Root.dead]
theorem i_pow.l0_z (k : Nat) (a0 : Int) (n1 : Int) (out5 : Int) : i_pow.l0 k 0 a0 n1 out5 = none := by kernel_rfl
theorem i_pow.l0_s (k : Nat) (m : Nat) (a0 : Int) (n1 : Int) (out5 : Int) : i_pow.l0 k (m + 1) a0 n1 out5 =
 cn (decide ((0 : Int) < n1))
 (cn (decide (IntKind.i64.wrap (↑(BitVec.ofInt (64 : Nat) n1 &&& BitVec.ofInt (64 : Nat) (1 : Int)).toNat : Int) = (1 : Int)))
  ((i_mul.f k out5 a0).bind fun d0 =>
   (i_mul.f k a0 a0).bind fun d1 =>
   i_pow.l0 k m d1 (n1.fdiv ((2 : Int) ^ (1 : Nat))) d0)
  ((i_mul.f k a0 a0).bind fun d0 =>
   i_pow.l0 k m d0 (n1.fdiv ((2 : Int) ^ (1 : Nat))) out5))
 (some out5) := by kernel_rfl
theorem i_pow.f_eq (k : Nat) (a : Int) (n : Int) : i_pow.f k a n =
 i_pow.l0 k k a n ((1 : Int)) := (opq_eq _).trans (by kernel_rfl)
abbrev i_inverse.s : Sig := ⟨123, [], [.val], [.one (.int .i64)], [.one (.int .i64)], [], []⟩
noncomputable def i_inverse.C (k : Nat) : List (Nat × Ctr) := [(132, i_pow.s.ctr (fun x => i_pow.f k x.1 x.2))]
noncomputable def i_inverse.f (k : Nat) (a : Int) : Option Int := opq (i_inverse.s.run Try.prog (i_inverse.C k) k a)
theorem i_inverse.ok (k : Nat) : CtrOk Try.prog 123 (i_inverse.s.ctr (fun x => i_inverse.f k x)) := sig_ok i_inverse.s (.cons (i_pow.ok k) .nil) (by kernel_rfl) fun _ => opq_eq _
theorem i_inverse.f_eq (k : Nat) (a : Int) : i_inverse.f k a =
 (i_pow.f k a (254 : Int)).bind fun d0 =>
 some d0 := (opq_eq _).trans (by kernel_rfl)
abbrev i_codeMatrix.s : Sig := ⟨105, [], [.val, .val], [.one (.int .i64), .one (.int .i64)], [.one (.own 27 (.sl 3 (.int .i64)))], [], [(2, [(0,false),(1,false),(5,true),(6,false),(7,true),(11,false),(12,false),(16,false),(17,false)]), (0, [(0,false),(1,false),(5,true),(11,false),(12,false)])]⟩
noncomputable def i_codeMatrix.C (k : Nat) : List (Nat × Ctr) := [(122, i_identity.s.ctr (fun x => i_identity.f k x)), (123, i_inverse.s.ctr (fun x => i_inverse.f k x))]
noncomputable def i_codeMatrix.f (k : Nat) (data : Int) (parity : Int) : Option (List (List Int)) := opq (i_codeMatrix.s.run Try.prog (i_codeMatrix.C k) k (data, parity))
theorem i_codeMatrix.ok (k : Nat) : CtrOk Try.prog 105 (i_codeMatrix.s.ctr (fun x => i_codeMatrix.f k x.1 x.2)) := sig_ok i_codeMatrix.s (.cons (i_identity.ok k) (.cons (i_inverse.ok k) .nil)) (by kernel_rfl) fun _ => opq_eq _
noncomputable def i_codeMatrix.l0 (k : Nat) (m : Nat) (data0 : Int) (parity1 : Int) (t11 : Int) (t12 : Int) (h1 : List (List Int)) : Option (List (List Int)) := i_codeMatrix.s.head Try.prog (i_codeMatrix.C k) k 1 0 [] m [(0, AV.int IntKind.i64 data0), (1, AV.int IntKind.i64 parity1), (5, AV.ref 1), (11, AV.int IntKind.i64 t11), (12, AV.int IntKind.i64 t12)] [Root.dead, Root.rows 27 (Kind.sl 3 (Kind.int IntKind.i64)) h1]
noncomputable def i_codeMatrix.l2 (k : Nat) (n0 : Nat) (m : Nat) (data0 : Int) (parity1 : Int) (x6 : Int) (t11 : Int) (t12 : Int) (t16 : Int) (t17 : Int) (h1 : List (List Int)) (h2 : List Int) : Option (List (List Int)) := i_codeMatrix.s.head Try.prog (i_codeMatrix.C k) k 1 2 [n0] m [(0, AV.int IntKind.i64 data0), (1, AV.int IntKind.i64 parity1), (5, AV.ref 1), (6, AV.int IntKind.i64 x6), (7, AV.ref 2), (11, AV.int IntKind.i64 t11), (12, AV.int IntKind.i64 t12), (16, AV.int IntKind.i64 t16), (17, AV.int IntKind.i64 t17)] [Root.dead, Root.rows 27 (Kind.sl 3 (Kind.int IntKind.i64)) h1, Root.rows 3 (Kind.int IntKind.i64) h2]
theorem i_codeMatrix.l0_z (k : Nat) (data0 : Int) (parity1 : Int) (t11 : Int) (t12 : Int) (h1 : List (List Int)) : i_codeMatrix.l0 k 0 data0 parity1 t11 t12 h1 = none := by kernel_rfl
theorem i_codeMatrix.l0_s (k : Nat) (m : Nat) (data0 : Int) (parity1 : Int) (t11 : Int) (t12 : Int) (h1 : List (List Int)) : i_codeMatrix.l0 k (m + 1) data0 parity1 t11 t12 h1 =
 cn (decide (t12 < t11))
 (i_codeMatrix.l2 k m k data0 parity1 t12 t11 t12 data0 ((0 : Int)) h1 ([]))
 (some h1) := by kernel_rfl
theorem i_codeMatrix.l2_z (k : Nat) (n0 : Nat) (data0 : Int) (parity1 : Int) (x6 : Int) (t11 : Int) (t12 : Int) (t16 : Int) (t17 : Int) (h1 : List (List Int)) (h2 : List Int) : i_codeMatrix.l2 k n0 0 data0 parity1 x6 t11 t12 t16 t17 h1 h2 = none := by kernel_rfl
theorem i_codeMatrix.l2_s (k : Nat) (n0 : Nat) (m : Nat) (data0 : Int) (parity1 : Int) (x6 : Int) (t11 : Int) (t12 : Int) (t16 : Int) (t17 : Int) (h1 : List (List Int)) (h2 : List Int) : i_codeMatrix.l2 k n0 (m + 1) data0 parity1 x6 t11 t12 t16 t17 h1 h2 =
 cn (decide (t17 < t16))
 ((i_inverse.f k (IntKind.i64.wrap (↑(BitVec.ofInt (64 : Nat) x6 ^^^ BitVec.ofInt (64 : Nat) (IntKind.i64.wrap (parity1 + t17))).toNat : Int))).bind fun d1 =>
  gd (appOk (h2.length + [d1].length) (Try.prog.bytesOf (3 : Nat)))
  (i_codeMatrix.l2 k n0 m data0 parity1 x6 t11 t12 t16 (IntKind.i64.wrap (t17 + (1 : Int))) h1 (h2 ++ [d1])))
 (gd (appOk (h1.length + (1 : Nat)) (Try.prog.bytesOf (27 : Nat)))
  (i_codeMatrix.l0 k n0 data0 parity1 t11 (IntKind.i64.wrap (t12 + (1 : Int))) (h1 ++ [h2]))) := by kernel_rfl
theorem i_codeMatrix.f_eq (k : Nat) (data : Int) (parity : Int) : i_codeMatrix.f k data parity =
 (i_identity.f k data).bind fun d0 =>
 i_codeMatrix.l0 k k data parity parity ((0 : Int)) d0 := (opq_eq _).trans (by kernel_rfl)
abbrev i_times.s : Sig := ⟨104, [], [.val, .val], [.one (.row 27 (.sl 3 (.int .i64))), .one (.row 27 (.sl 3 (.int .i64)))], [.one (.own 27 (.sl 3 (.int .i64)))], [], [(4, [(1,false),(5,true),(8,true),(10,false),(14,true),(15,false),(16,false),(25,true),(26,false),(27,false),(35,true),(36,false),(37,false)]), (2, [(1,false),(5,true),(8,true),(14,true),(15,false),(16,false),(25,true),(26,false),(27,false)]), (0, [(1,false),(5,true),(14,true),(15,false),(16,false)])]⟩
noncomputable def i_times.C (k : Nat) : List (Nat × Ctr) := [(121, i_mul.s.ctr (fun x => i_mul.f k x.1 x.2))]
noncomputable def i_times.f (k : Nat) (a : List (List Int)) (b : List (List Int)) : Option (List (List Int)) := opq (i_times.s.run Try.prog (i_times.C k) k (a, b))
theorem i_times.ok (k : Nat) : CtrOk Try.prog 104 (i_times.s.ctr (fun x => i_times.f k x.1 x.2)) := sig_ok i_times.s (.cons (i_mul.ok k) .nil) (by kernel_rfl) fun _ => opq_eq _
noncomputable def i_times.l0 (k : Nat) (m : Nat) (b1 : List (List Int)) (t14 : List (List Int)) (t15 : Int) (t16 : Int) (h1 : List (List Int)) : Option (List (List Int)) := i_times.s.head Try.prog (i_times.C k) k 1 0 [] m [(1, AV.row 27 (Kind.sl 3 (Kind.int IntKind.i64)) b1), (5, AV.ref 1), (14, AV.row 27 (Kind.sl 3 (Kind.int IntKind.i64)) t14), (15, AV.int IntKind.i64 t15), (16, AV.int IntKind.i64 t16)] [Root.dead, Root.rows 27 (Kind.sl 3 (Kind.int IntKind.i64)) h1]
noncomputable def i_times.l2 (k : Nat) (n0 : Nat) (m : Nat) (b1 : List (List Int)) (t14 : List (List Int)) (t15 : Int) (t16 : Int) (t25 : List Int) (t26 : Int) (t27 : Int) (h1 : List (List Int)) (h2 : List Int) : Option (List (List Int)) := i_times.s.head Try.prog (i_times.C k) k 1 2 [n0] m [(1, AV.row 27 (Kind.sl 3 (Kind.int IntKind.i64)) b1), (5, AV.ref 1), (8, AV.ref 2), (14, AV.row 27 (Kind.sl 3 (Kind.int IntKind.i64)) t14), (15, AV.int IntKind.i64 t15), (16, AV.int IntKind.i64 t16), (25, AV.row 3 (Kind.int IntKind.i64) t25), (26, AV.int IntKind.i64 t26), (27, AV.int IntKind.i64 t27)] [Root.dead, Root.rows 27 (Kind.sl 3 (Kind.int IntKind.i64)) h1, Root.rows 3 (Kind.int IntKind.i64) h2]
noncomputable def i_times.l4 (k : Nat) (n0 : Nat) (n2 : Nat) (m : Nat) (b1 : List (List Int)) (n10 : Int) (t14 : List (List Int)) (t15 : Int) (t16 : Int) (t25 : List Int) (t26 : Int) (t27 : Int) (t35 : List Int) (t36 : Int) (t37 : Int) (h1 : List (List Int)) (h2 : List Int) : Option (List (List Int)) := i_times.s.head Try.prog (i_times.C k) k 1 4 [n0, n2] m [(1, AV.row 27 (Kind.sl 3 (Kind.int IntKind.i64)) b1), (5, AV.ref 1), (8, AV.ref 2), (10, AV.int IntKind.i64 n10), (14, AV.row 27 (Kind.sl 3 (Kind.int IntKind.i64)) t14), (15, AV.int IntKind.i64 t15), (16, AV.int IntKind.i64 t16), (25, AV.row 3 (Kind.int IntKind.i64) t25), (26, AV.int IntKind.i64 t26), (27, AV.int IntKind.i64 t27), (35, AV.row 3 (Kind.int IntKind.i64) t35), (36, AV.int IntKind.i64 t36), (37, AV.int IntKind.i64 t37)] [Root.dead, Root.rows 27 (Kind.sl 3 (Kind.int IntKind.i64)) h1, Root.rows 3 (Kind.int IntKind.i64) h2]
theorem i_times.l0_z (k : Nat) (b1 : List (List Int)) (t14 : List (List Int)) (t15 : Int) (t16 : Int) (h1 : List (List Int)) : i_times.l0 k 0 b1 t14 t15 t16 h1 = none := by kernel_rfl
theorem i_times.l0_s (k : Nat) (m : Nat) (b1 : List (List Int)) (t14 : List (List Int)) (t15 : Int) (t16 : Int) (h1 : List (List Int)) : i_times.l0 k (m + 1) b1 t14 t15 t16 h1 =
 cn (decide (t16 < t15))
 (gd (inb t16 t14.length)
  (gd (inb (0 : Int) b1.length)
   (gd (mkOk (↑(getAt [] b1 (0 : Nat)).length : Int) (↑(getAt [] b1 (0 : Nat)).length : Int) (Try.prog.bytesOf (3 : Nat)))
    (i_times.l2 k m k b1 t14 t15 t16 (getAt [] t14 t16.toNat) ((↑(getAt [] t14 t16.toNat).length : Int)) ((0 : Int)) h1 (List.replicate (↑(getAt [] b1 (0 : Nat)).length : Int).toNat (0 : Int))))))
 (some h1) := by kernel_rfl
theorem i_times.l2_z (k : Nat) (n0 : Nat) (b1 : List (List Int)) (t14 : List (List Int)) (t15 : Int) (t16 : Int) (t25 : List Int) (t26 : Int) (t27 : Int) (h1 : List (List Int)) (h2 : List Int) : i_times.l2 k n0 0 b1 t14 t15 t16 t25 t26 t27 h1 h2 = none := by kernel_rfl
theorem i_times.l2_s (k : Nat) (n0 : Nat) (m : Nat) (b1 : List (List Int)) (t14 : List (List Int)) (t15 : Int) (t16 : Int) (t25 : List Int) (t26 : Int) (t27 : Int) (h1 : List (List Int)) (h2 : List Int) : i_times.l2 k n0 (m + 1) b1 t14 t15 t16 t25 t26 t27 h1 h2 =
 cn (decide (t27 < t26))
 (gd (inb t27 t25.length)
  (gd (inb t27 b1.length)
   (i_times.l4 k n0 m k b1 (getAt (0 : Int) t25 t27.toNat) t14 t15 t16 t25 t26 t27 (getAt [] b1 t27.toNat) ((↑(getAt [] b1 t27.toNat).length : Int)) ((0 : Int)) h1 h2)))
 (gd (appOk (h1.length + (1 : Nat)) (Try.prog.bytesOf (27 : Nat)))
  (i_times.l0 k n0 b1 t14 t15 (IntKind.i64.wrap (t16 + (1 : Int))) (h1 ++ [h2]))) := by kernel_rfl
theorem i_times.l4_z (k : Nat) (n0 : Nat) (n2 : Nat) (b1 : List (List Int)) (n10 : Int) (t14 : List (List Int)) (t15 : Int) (t16 : Int) (t25 : List Int) (t26 : Int) (t27 : Int) (t35 : List Int) (t36 : Int) (t37 : Int) (h1 : List (List Int)) (h2 : List Int) : i_times.l4 k n0 n2 0 b1 n10 t14 t15 t16 t25 t26 t27 t35 t36 t37 h1 h2 = none := by kernel_rfl
theorem i_times.l4_s (k : Nat) (n0 : Nat) (n2 : Nat) (m : Nat) (b1 : List (List Int)) (n10 : Int) (t14 : List (List Int)) (t15 : Int) (t16 : Int) (t25 : List Int) (t26 : Int) (t27 : Int) (t35 : List Int) (t36 : Int) (t37 : Int) (h1 : List (List Int)) (h2 : List Int) : i_times.l4 k n0 n2 (m + 1) b1 n10 t14 t15 t16 t25 t26 t27 t35 t36 t37 h1 h2 =
 cn (decide (t37 < t36))
 (gd (inb t37 t35.length)
  (gd (inb t37 h2.length)
   ((i_mul.f k n10 (getAt (0 : Int) t35 t37.toNat)).bind fun d0 =>
    gd (inb t37 h2.length)
    (i_times.l4 k n0 n2 m b1 n10 t14 t15 t16 t25 t26 t27 t35 t36 (IntKind.i64.wrap (t37 + (1 : Int))) h1 (h2.set t37.toNat (IntKind.i64.wrap (↑(BitVec.ofInt (64 : Nat) (getAt (0 : Int) h2 t37.toNat) ^^^ BitVec.ofInt (64 : Nat) d0).toNat : Int)))))))
 (i_times.l2 k n0 n2 b1 t14 t15 t16 t25 t26 (IntKind.i64.wrap (t27 + (1 : Int))) h1 h2) := by kernel_rfl
theorem i_times.f_eq (k : Nat) (a : List (List Int)) (b : List (List Int)) : i_times.f k a b =
 i_times.l0 k k b a ((↑a.length : Int)) ((0 : Int)) ([]) := (opq_eq _).trans (by kernel_rfl)
abbrev i_encoded.s : Sig := ⟨81, [], [.val, .val], [.one (.row 27 (.sl 3 (.int .i64))), .one (.int .i64)], [.one (.own 27 (.sl 3 (.int .i64)))], [], []⟩
noncomputable def i_encoded.C (k : Nat) : List (Nat × Ctr) := [(104, i_times.s.ctr (fun x => i_times.f k x.1 x.2)), (105, i_codeMatrix.s.ctr (fun x => i_codeMatrix.f k x.1 x.2))]
noncomputable def i_encoded.f (k : Nat) (data : List (List Int)) (parity : Int) : Option (List (List Int)) := opq (i_encoded.s.run Try.prog (i_encoded.C k) k (data, parity))
theorem i_encoded.ok (k : Nat) : CtrOk Try.prog 81 (i_encoded.s.ctr (fun x => i_encoded.f k x.1 x.2)) := sig_ok i_encoded.s (.cons (i_times.ok k) (.cons (i_codeMatrix.ok k) .nil)) (by kernel_rfl) fun _ => opq_eq _
theorem i_encoded.f_eq (k : Nat) (data : List (List Int)) (parity : Int) : i_encoded.f k data parity =
 (i_codeMatrix.f k (↑data.length : Int) parity).bind fun d0 =>
 (i_times.f k d0 data).bind fun d1 =>
 some d1 := (opq_eq _).trans (by kernel_rfl)
abbrev i_piecesFor.s : Sig := ⟨60, [], [.val], [.one .str], [.one (.own 27 (.sl 3 (.int .i64)))], [], [(2, [(3,false),(4,true),(6,true),(23,false),(34,true),(35,false),(36,false)]), (0, [(3,false),(4,true),(23,false)])]⟩
noncomputable def i_piecesFor.C (k : Nat) : List (Nat × Ctr) := [(80, strings_Repeat.s.ctr (fun x => strings_Repeat.f k x.1 x.2)), (81, i_encoded.s.ctr (fun x => i_encoded.f k x.1 x.2))]
noncomputable def i_piecesFor.f (k : Nat) (text : ByteArray) : Option (List (List Int)) := opq (i_piecesFor.s.run Try.prog (i_piecesFor.C k) k text)
theorem i_piecesFor.ok (k : Nat) : CtrOk Try.prog 60 (i_piecesFor.s.ctr (fun x => i_piecesFor.f k x)) := sig_ok i_piecesFor.s (.cons (strings_Repeat.ok k) (.cons (i_encoded.ok k) .nil)) (by kernel_rfl) fun _ => opq_eq _
noncomputable def i_piecesFor.l0 (k : Nat) (m : Nat) (bytes3 : ByteArray) (t23 : Int) (h1 : List (List Int)) : Option (List (List Int)) := i_piecesFor.s.head Try.prog (i_piecesFor.C k) k 1 0 [] m [(3, AV.str bytes3), (4, AV.ref 1), (23, AV.int IntKind.i64 t23)] [Root.dead, Root.rows 27 (Kind.sl 3 (Kind.int IntKind.i64)) h1]
noncomputable def i_piecesFor.l2 (k : Nat) (n0 : Nat) (m : Nat) (bytes3 : ByteArray) (t23 : Int) (t35 : Int) (t36 : Int) (h1 : List (List Int)) (h2 : List Int) (h3 : List Int) : Option (List (List Int)) := i_piecesFor.s.head Try.prog (i_piecesFor.C k) k 1 2 [n0] m [(3, AV.str bytes3), (4, AV.ref 1), (6, AV.ref 2), (23, AV.int IntKind.i64 t23), (34, AV.ref 3), (35, AV.int IntKind.i64 t35), (36, AV.int IntKind.i64 t36)] [Root.dead, Root.rows 27 (Kind.sl 3 (Kind.int IntKind.i64)) h1, Root.rows 3 (Kind.int IntKind.i64) h2, Root.rows 5 (Kind.int IntKind.u8) h3]
theorem i_piecesFor.l0_z (k : Nat) (bytes3 : ByteArray) (t23 : Int) (h1 : List (List Int)) : i_piecesFor.l0 k 0 bytes3 t23 h1 = none := by kernel_rfl
theorem i_piecesFor.l0_s (k : Nat) (m : Nat) (bytes3 : ByteArray) (t23 : Int) (h1 : List (List Int)) : i_piecesFor.l0 k (m + 1) bytes3 t23 h1 =
 cn (decide (t23 < (3 : Int)))
 (gd (decide ((0 : Int) ≤ IntKind.i64.wrap (t23 * (16 : Int))) && (decide (IntKind.i64.wrap (t23 * (16 : Int)) ≤ IntKind.i64.wrap (IntKind.i64.wrap (t23 + (1 : Int)) * (16 : Int))) && decide (IntKind.i64.wrap (IntKind.i64.wrap (t23 + (1 : Int)) * (16 : Int)) ≤ (↑bytes3.size : Int))))
  (gd (decide ((bytes3.extract (IntKind.i64.wrap (t23 * (16 : Int))).toNat (IntKind.i64.wrap (IntKind.i64.wrap (t23 + (1 : Int)) * (16 : Int))).toNat).size ≤ (70368744177664 : Nat)))
   (i_piecesFor.l2 k m k bytes3 t23 ((↑(bytesL (bytes3.extract (IntKind.i64.wrap (t23 * (16 : Int))).toNat (IntKind.i64.wrap (IntKind.i64.wrap (t23 + (1 : Int)) * (16 : Int))).toNat)).length : Int)) ((0 : Int)) h1 ([]) (bytesL (bytes3.extract (IntKind.i64.wrap (t23 * (16 : Int))).toNat (IntKind.i64.wrap (IntKind.i64.wrap (t23 + (1 : Int)) * (16 : Int))).toNat)))))
 ((i_encoded.f k h1 (2 : Int)).bind fun d1 =>
  some d1) := by kernel_rfl
theorem i_piecesFor.l2_z (k : Nat) (n0 : Nat) (bytes3 : ByteArray) (t23 : Int) (t35 : Int) (t36 : Int) (h1 : List (List Int)) (h2 : List Int) (h3 : List Int) : i_piecesFor.l2 k n0 0 bytes3 t23 t35 t36 h1 h2 h3 = none := by kernel_rfl
theorem i_piecesFor.l2_s (k : Nat) (n0 : Nat) (m : Nat) (bytes3 : ByteArray) (t23 : Int) (t35 : Int) (t36 : Int) (h1 : List (List Int)) (h2 : List Int) (h3 : List Int) : i_piecesFor.l2 k n0 (m + 1) bytes3 t23 t35 t36 h1 h2 h3 =
 cn (decide (t36 < t35))
 (gd (inb t36 h3.length)
  (gd (appOk (h2.length + [IntKind.i64.wrap (getAt (0 : Int) h3 t36.toNat)].length) (Try.prog.bytesOf (3 : Nat)))
   (i_piecesFor.l2 k n0 m bytes3 t23 t35 (IntKind.i64.wrap (t36 + (1 : Int))) h1 (h2 ++ [IntKind.i64.wrap (getAt (0 : Int) h3 t36.toNat)]) h3)))
 (gd (appOk (h1.length + (1 : Nat)) (Try.prog.bytesOf (27 : Nat)))
  (i_piecesFor.l0 k n0 bytes3 (IntKind.i64.wrap (t23 + (1 : Int))) (h1 ++ [h2]))) := by kernel_rfl
theorem i_piecesFor.f_eq (k : Nat) (text : ByteArray) : i_piecesFor.f k text =
 gd (decide ((strOfNums [IntKind.u8.wrap (↑text.size : Int)]).size + text.size ≤ (140737488355328 : Nat)))
 ((strings_Repeat.f k { data := #[(0 : UInt8)] : ByteArray } (IntKind.i64.wrap ((48 : Int) - (↑(strOfNums [IntKind.u8.wrap (↑text.size : Int)] ++ text).size : Int)))).bind fun d0 =>
  gd (decide ((strOfNums [IntKind.u8.wrap (↑text.size : Int)] ++ text).size + ByteArray.size d0 ≤ (140737488355328 : Nat)))
  (i_piecesFor.l0 k k (strOfNums [IntKind.u8.wrap (↑text.size : Int)] ++ text ++ d0) ((0 : Int)) ([]))) := (opq_eq _).trans (by kernel_rfl)
abbrev i_bodyOf.s : Sig := ⟨82, [], [.val], [.one (.row 3 (.int .i64))], [.one .str], [], [(0, [(3,true),(7,true),(8,false),(9,false)])]⟩
noncomputable def i_bodyOf.C (k : Nat) : List (Nat × Ctr) := []
noncomputable def i_bodyOf.f (k : Nat) (piece : List Int) : Option ByteArray := opq (i_bodyOf.s.run Try.prog (i_bodyOf.C k) k piece)
theorem i_bodyOf.ok (k : Nat) : CtrOk Try.prog 82 (i_bodyOf.s.ctr (fun x => i_bodyOf.f k x)) := sig_ok i_bodyOf.s .nil (by kernel_rfl) fun _ => opq_eq _
noncomputable def i_bodyOf.l0 (k : Nat) (m : Nat) (t7 : List Int) (t8 : Int) (t9 : Int) (h1 : List Int) : Option ByteArray := i_bodyOf.s.head Try.prog (i_bodyOf.C k) k 1 0 [] m [(3, AV.ref 1), (7, AV.row 3 (Kind.int IntKind.i64) t7), (8, AV.int IntKind.i64 t8), (9, AV.int IntKind.i64 t9)] [Root.dead, Root.rows 5 (Kind.int IntKind.u8) h1]
theorem i_bodyOf.l0_z (k : Nat) (t7 : List Int) (t8 : Int) (t9 : Int) (h1 : List Int) : i_bodyOf.l0 k 0 t7 t8 t9 h1 = none := by kernel_rfl
theorem i_bodyOf.l0_s (k : Nat) (m : Nat) (t7 : List Int) (t8 : Int) (t9 : Int) (h1 : List Int) : i_bodyOf.l0 k (m + 1) t7 t8 t9 h1 =
 cn (decide (t9 < t8))
 (gd (inb t9 t7.length)
  (gd (appOk (h1.length + [IntKind.u8.wrap (getAt (0 : Int) t7 t9.toNat)].length) (Try.prog.bytesOf (5 : Nat)))
   (i_bodyOf.l0 k m t7 t8 (IntKind.i64.wrap (t9 + (1 : Int))) (h1 ++ [IntKind.u8.wrap (getAt (0 : Int) t7 t9.toNat)]))))
 (some (strOfNums h1)) := by kernel_rfl
theorem i_bodyOf.f_eq (k : Nat) (piece : List Int) : i_bodyOf.f k piece =
 i_bodyOf.l0 k k piece ((↑piece.length : Int)) ((0 : Int)) ([]) := (opq_eq _).trans (by kernel_rfl)
abbrev i_GoodFrame.s : Sig := ⟨83, [], [.val], [.agg [.int .i64, .int .i64, .int .i64, .str]], [.one .bool], [], []⟩
noncomputable def i_GoodFrame.C (k : Nat) : List (Nat × Ctr) := [(30, i_within.s.ctr (fun x => i_within.f k x.1 x.2.1 x.2.2))]
noncomputable def i_GoodFrame.f (k : Nat) (f_Kind : Int) (f_At : Int) (f_Epoch : Int) (f_Body : ByteArray) : Option Bool := opq (i_GoodFrame.s.run Try.prog (i_GoodFrame.C k) k (f_Kind, f_At, f_Epoch, f_Body))
theorem i_GoodFrame.ok (k : Nat) : CtrOk Try.prog 83 (i_GoodFrame.s.ctr (fun x => i_GoodFrame.f k x.1 x.2.1 x.2.2.1 x.2.2.2)) := sig_ok i_GoodFrame.s (.cons (i_within.ok k) .nil) (by kernel_rfl) fun _ => opq_eq _
theorem i_GoodFrame.f_eq (k : Nat) (f_Kind : Int) (f_At : Int) (f_Epoch : Int) (f_Body : ByteArray) : i_GoodFrame.f k f_Kind f_At f_Epoch f_Body =
 (i_within.f k f_Kind (1 : Int) (255 : Int)).bind fun d0 =>
 cn d0
 ((i_within.f k f_At (0 : Int) (60000 : Int)).bind fun d1 =>
  cn d1
  ((i_within.f k f_Epoch (0 : Int) (60000 : Int)).bind fun d2 =>
   cn d2
   (some (decide ((↑f_Body.size : Int) ≤ (16 : Int))))
   (some false))
  (some false))
 (some false) := (opq_eq _).trans (by kernel_rfl)
abbrev i_turned.s : Sig := ⟨126, [], [.val], [.one (.int .i64)], [.one (.int .i64)], [], []⟩
noncomputable def i_turned.C (k : Nat) : List (Nat × Ctr) := []
noncomputable def i_turned.f (k : Nat) (sum : Int) : Option Int := opq (i_turned.s.run Try.prog (i_turned.C k) k sum)
theorem i_turned.ok (k : Nat) : CtrOk Try.prog 126 (i_turned.s.ctr (fun x => i_turned.f k x)) := sig_ok i_turned.s .nil (by kernel_rfl) fun _ => opq_eq _
theorem i_turned.f_eq (k : Nat) (sum : Int) : i_turned.f k sum =
 some (IntKind.i64.wrap (↑(BitVec.ofInt (64 : Nat) sum ^^^ BitVec.ofInt (64 : Nat) (4294967295 : Int)).toNat : Int)) := (opq_eq _).trans (by kernel_rfl)
abbrev i_shifted.s : Sig := ⟨127, [], [.val], [.one (.int .i64)], [.one (.int .i64)], [], [(0, [(0,false),(4,false)])]⟩
noncomputable def i_shifted.C (k : Nat) : List (Nat × Ctr) := []
noncomputable def i_shifted.f (k : Nat) (sum : Int) : Option Int := opq (i_shifted.s.run Try.prog (i_shifted.C k) k sum)
theorem i_shifted.ok (k : Nat) : CtrOk Try.prog 127 (i_shifted.s.ctr (fun x => i_shifted.f k x)) := sig_ok i_shifted.s .nil (by kernel_rfl) fun _ => opq_eq _
noncomputable def i_shifted.l0 (k : Nat) (m : Nat) (sum0 : Int) (t4 : Int) : Option Int := i_shifted.s.head Try.prog (i_shifted.C k) k 1 0 [] m [(0, AV.int IntKind.i64 sum0), (4, AV.int IntKind.i64 t4)] [Root.dead]
theorem i_shifted.l0_z (k : Nat) (sum0 : Int) (t4 : Int) : i_shifted.l0 k 0 sum0 t4 = none := by kernel_rfl
theorem i_shifted.l0_s (k : Nat) (m : Nat) (sum0 : Int) (t4 : Int) : i_shifted.l0 k (m + 1) sum0 t4 =
 cn (decide (t4 < (8 : Int)))
 (cn (decide (IntKind.i64.wrap (↑(BitVec.ofInt (64 : Nat) sum0 &&& BitVec.ofInt (64 : Nat) (1 : Int)).toNat : Int) = (1 : Int)))
  (i_shifted.l0 k m (IntKind.i64.wrap (↑(BitVec.ofInt (64 : Nat) (sum0.fdiv ((2 : Int) ^ (1 : Nat))) ^^^ BitVec.ofInt (64 : Nat) (2197175160 : Int)).toNat : Int)) (IntKind.i64.wrap (t4 + (1 : Int))))
  (i_shifted.l0 k m (sum0.fdiv ((2 : Int) ^ (1 : Nat))) (IntKind.i64.wrap (t4 + (1 : Int)))))
 (some sum0) := by kernel_rfl
theorem i_shifted.f_eq (k : Nat) (sum : Int) : i_shifted.f k sum =
 i_shifted.l0 k k sum ((0 : Int)) := (opq_eq _).trans (by kernel_rfl)
abbrev i_sumOn.s : Sig := ⟨109, [], [.val, .val], [.one (.int .i64), .one .str], [.one (.int .i64)], [], [(0, [(0,false),(1,false),(9,false),(10,false)])]⟩
noncomputable def i_sumOn.C (k : Nat) : List (Nat × Ctr) := [(126, i_turned.s.ctr (fun x => i_turned.f k x)), (127, i_shifted.s.ctr (fun x => i_shifted.f k x))]
noncomputable def i_sumOn.f (k : Nat) (sum : Int) (s : ByteArray) : Option Int := opq (i_sumOn.s.run Try.prog (i_sumOn.C k) k (sum, s))
theorem i_sumOn.ok (k : Nat) : CtrOk Try.prog 109 (i_sumOn.s.ctr (fun x => i_sumOn.f k x.1 x.2)) := sig_ok i_sumOn.s (.cons (i_turned.ok k) (.cons (i_shifted.ok k) .nil)) (by kernel_rfl) fun _ => opq_eq _
noncomputable def i_sumOn.l0 (k : Nat) (m : Nat) (sum0 : Int) (s1 : ByteArray) (t9 : Int) (t10 : Int) : Option Int := i_sumOn.s.head Try.prog (i_sumOn.C k) k 1 0 [] m [(0, AV.int IntKind.i64 sum0), (1, AV.str s1), (9, AV.int IntKind.i64 t9), (10, AV.int IntKind.i64 t10)] [Root.dead]
theorem i_sumOn.l0_z (k : Nat) (sum0 : Int) (s1 : ByteArray) (t9 : Int) (t10 : Int) : i_sumOn.l0 k 0 sum0 s1 t9 t10 = none := by kernel_rfl
theorem i_sumOn.l0_s (k : Nat) (m : Nat) (sum0 : Int) (s1 : ByteArray) (t9 : Int) (t10 : Int) : i_sumOn.l0 k (m + 1) sum0 s1 t9 t10 =
 cn (decide (t10 < t9))
 (gd (inb t10 s1.size)
  ((i_shifted.f k (IntKind.i64.wrap (↑(BitVec.ofInt (64 : Nat) sum0 ^^^ BitVec.ofInt (64 : Nat) (IntKind.i64.wrap (↑(s1.data.getD t10.toNat (0 : UInt8)).toNat : Int))).toNat : Int))).bind fun d1 =>
   i_sumOn.l0 k m d1 s1 t9 (IntKind.i64.wrap (t10 + (1 : Int)))))
 ((i_turned.f k sum0).bind fun d1 =>
  some d1) := by kernel_rfl
theorem i_sumOn.f_eq (k : Nat) (sum : Int) (s : ByteArray) : i_sumOn.f k sum s =
 (i_turned.f k sum).bind fun d0 =>
 i_sumOn.l0 k k d0 s ((↑s.size : Int)) ((0 : Int)) := (opq_eq _).trans (by kernel_rfl)
abbrev i_frameBytes.s : Sig := ⟨85, [], [.val], [.agg [.int .i64, .int .i64, .int .i64, .str]], [.one .str], [], []⟩
noncomputable def i_frameBytes.C (k : Nat) : List (Nat × Ctr) := [(109, i_sumOn.s.ctr (fun x => i_sumOn.f k x.1 x.2))]
noncomputable def i_frameBytes.f (k : Nat) (f_Kind : Int) (f_At : Int) (f_Epoch : Int) (f_Body : ByteArray) : Option ByteArray := opq (i_frameBytes.s.run Try.prog (i_frameBytes.C k) k (f_Kind, f_At, f_Epoch, f_Body))
theorem i_frameBytes.ok (k : Nat) : CtrOk Try.prog 85 (i_frameBytes.s.ctr (fun x => i_frameBytes.f k x.1 x.2.1 x.2.2.1 x.2.2.2)) := sig_ok i_frameBytes.s (.cons (i_sumOn.ok k) .nil) (by kernel_rfl) fun _ => opq_eq _
theorem i_frameBytes.f_eq (k : Nat) (f_Kind : Int) (f_At : Int) (f_Epoch : Int) (f_Body : ByteArray) : i_frameBytes.f k f_Kind f_At f_Epoch f_Body =
 gd (appOk ([IntKind.u8.wrap f_Kind, IntKind.u8.wrap (f_At.fdiv ((2 : Int) ^ (8 : Nat))), IntKind.u8.wrap f_At, IntKind.u8.wrap (f_Epoch.fdiv ((2 : Int) ^ (8 : Nat))), IntKind.u8.wrap f_Epoch, IntKind.u8.wrap (↑f_Body.size : Int)].length + (bytesL f_Body).length) (Try.prog.bytesOf (5 : Nat)))
 (gd (decide ((0 : Int) ≤ IntKind.i64.wrap (IntKind.i64.wrap ((18 : Int) - (↑f_Body.size : Int)))) && appOk (([IntKind.u8.wrap f_Kind, IntKind.u8.wrap (f_At.fdiv ((2 : Int) ^ (8 : Nat))), IntKind.u8.wrap f_At, IntKind.u8.wrap (f_Epoch.fdiv ((2 : Int) ^ (8 : Nat))), IntKind.u8.wrap f_Epoch, IntKind.u8.wrap (↑f_Body.size : Int)] ++ bytesL f_Body).length + (List.replicate (IntKind.i64.wrap (IntKind.i64.wrap ((18 : Int) - (↑f_Body.size : Int)))).toNat (0 : Int)).length) (Try.prog.bytesOf (5 : Nat)))
  ((i_sumOn.f k (0 : Int) (strOfNums ([IntKind.u8.wrap f_Kind, IntKind.u8.wrap (f_At.fdiv ((2 : Int) ^ (8 : Nat))), IntKind.u8.wrap f_At, IntKind.u8.wrap (f_Epoch.fdiv ((2 : Int) ^ (8 : Nat))), IntKind.u8.wrap f_Epoch, IntKind.u8.wrap (↑f_Body.size : Int)] ++ bytesL f_Body ++ List.replicate (IntKind.i64.wrap (IntKind.i64.wrap ((18 : Int) - (↑f_Body.size : Int)))).toNat (0 : Int)))).bind fun d0 =>
   gd (appOk (([IntKind.u8.wrap f_Kind, IntKind.u8.wrap (f_At.fdiv ((2 : Int) ^ (8 : Nat))), IntKind.u8.wrap f_At, IntKind.u8.wrap (f_Epoch.fdiv ((2 : Int) ^ (8 : Nat))), IntKind.u8.wrap f_Epoch, IntKind.u8.wrap (↑f_Body.size : Int)] ++ bytesL f_Body ++ List.replicate (IntKind.i64.wrap (IntKind.i64.wrap ((18 : Int) - (↑f_Body.size : Int)))).toNat (0 : Int)).length + [IntKind.u8.wrap d0, IntKind.u8.wrap (Int.fdiv d0 ((2 : Int) ^ (8 : Nat))), IntKind.u8.wrap (Int.fdiv d0 ((2 : Int) ^ (16 : Nat))), IntKind.u8.wrap (Int.fdiv d0 ((2 : Int) ^ (24 : Nat)))].length) (Try.prog.bytesOf (5 : Nat)))
   (some (strOfNums ([IntKind.u8.wrap f_Kind, IntKind.u8.wrap (f_At.fdiv ((2 : Int) ^ (8 : Nat))), IntKind.u8.wrap f_At, IntKind.u8.wrap (f_Epoch.fdiv ((2 : Int) ^ (8 : Nat))), IntKind.u8.wrap f_Epoch, IntKind.u8.wrap (↑f_Body.size : Int)] ++ bytesL f_Body ++ List.replicate (IntKind.i64.wrap (IntKind.i64.wrap ((18 : Int) - (↑f_Body.size : Int)))).toNat (0 : Int) ++ [IntKind.u8.wrap d0, IntKind.u8.wrap (Int.fdiv d0 ((2 : Int) ^ (8 : Nat))), IntKind.u8.wrap (Int.fdiv d0 ((2 : Int) ^ (16 : Nat))), IntKind.u8.wrap (Int.fdiv d0 ((2 : Int) ^ (24 : Nat)))]))))) := (opq_eq _).trans (by kernel_rfl)
abbrev b_Clone_string.s : Sig := ⟨89, [], [.val], [.one (.row 9 .str)], [.one (.own 9 .str)], [], []⟩
noncomputable def b_Clone_string.C (k : Nat) : List (Nat × Ctr) := []
noncomputable def b_Clone_string.f (k : Nat) (s : List ByteArray) : Option (List ByteArray) := opq (b_Clone_string.s.run Try.prog (b_Clone_string.C k) k s)
theorem b_Clone_string.ok (k : Nat) : CtrOk Try.prog 89 (b_Clone_string.s.ctr (fun x => b_Clone_string.f k x)) := sig_ok b_Clone_string.s .nil (by kernel_rfl) fun _ => opq_eq _
theorem b_Clone_string.f_eq (k : Nat) (s : List ByteArray) : b_Clone_string.f k s =
 cn (noEl s)
 (both
  (some ([]))
  (gd (appOk ((0 : Nat) + s.length) (Try.prog.bytesOf (9 : Nat)))
   (some ([] ++ s))))
 (gd (appOk ((0 : Nat) + s.length) (Try.prog.bytesOf (9 : Nat)))
  (some ([] ++ s))) := (opq_eq _).trans (by kernel_rfl)
abbrev b_Clone_bool.s : Sig := ⟨90, [], [.val], [.one (.row 4 .bool)], [.one (.own 4 .bool)], [], []⟩
noncomputable def b_Clone_bool.C (k : Nat) : List (Nat × Ctr) := []
noncomputable def b_Clone_bool.f (k : Nat) (s : List Bool) : Option (List Bool) := opq (b_Clone_bool.s.run Try.prog (b_Clone_bool.C k) k s)
theorem b_Clone_bool.ok (k : Nat) : CtrOk Try.prog 90 (b_Clone_bool.s.ctr (fun x => b_Clone_bool.f k x)) := sig_ok b_Clone_bool.s .nil (by kernel_rfl) fun _ => opq_eq _
theorem b_Clone_bool.f_eq (k : Nat) (s : List Bool) : b_Clone_bool.f k s =
 cn (noEl s)
 (both
  (some ([]))
  (gd (appOk ((0 : Nat) + s.length) (Try.prog.bytesOf (4 : Nat)))
   (some ([] ++ s))))
 (gd (appOk ((0 : Nat) + s.length) (Try.prog.bytesOf (4 : Nat)))
  (some ([] ++ s))) := (opq_eq _).trans (by kernel_rfl)
abbrev i_ownDisk.s : Sig := ⟨72, [], [.val], [.agg [.row 9 .str, .row 9 .str, .row 4 .bool]], [.agg [.own 9 .str, .own 9 .str, .own 4 .bool]], [], []⟩
noncomputable def i_ownDisk.C (k : Nat) : List (Nat × Ctr) := [(89, b_Clone_string.s.ctr (fun x => b_Clone_string.f k x)), (90, b_Clone_bool.s.ctr (fun x => b_Clone_bool.f k x))]
noncomputable def i_ownDisk.f (k : Nat) (d_Plate : List ByteArray) (d_Held : List ByteArray) (d_Bad : List Bool) : Option (List ByteArray × List ByteArray × List Bool) := opq (i_ownDisk.s.run Try.prog (i_ownDisk.C k) k (d_Plate, d_Held, d_Bad))
theorem i_ownDisk.ok (k : Nat) : CtrOk Try.prog 72 (i_ownDisk.s.ctr (fun x => i_ownDisk.f k x.1 x.2.1 x.2.2)) := sig_ok i_ownDisk.s (.cons (b_Clone_string.ok k) (.cons (b_Clone_bool.ok k) .nil)) (by kernel_rfl) fun _ => opq_eq _
theorem i_ownDisk.f_eq (k : Nat) (d_Plate : List ByteArray) (d_Held : List ByteArray) (d_Bad : List Bool) : i_ownDisk.f k d_Plate d_Held d_Bad =
 (b_Clone_string.f k d_Plate).bind fun d0 =>
 (b_Clone_string.f k d_Held).bind fun d1 =>
 (b_Clone_bool.f k d_Bad).bind fun d2 =>
 some ((d0, d1, d2)) := (opq_eq _).trans (by kernel_rfl)
abbrev i_heldIn.s : Sig := ⟨63, [], [.val], [.agg [.row 9 .str, .row 9 .str, .row 4 .bool]], [.one (.own 3 (.int .i64))], [], [(0, [(3,true),(8,true),(9,false),(10,false)])]⟩
noncomputable def i_heldIn.C (k : Nat) : List (Nat × Ctr) := []
noncomputable def i_heldIn.f (k : Nat) (d_Plate : List ByteArray) (d_Held : List ByteArray) (d_Bad : List Bool) : Option (List Int) := opq (i_heldIn.s.run Try.prog (i_heldIn.C k) k (d_Plate, d_Held, d_Bad))
theorem i_heldIn.ok (k : Nat) : CtrOk Try.prog 63 (i_heldIn.s.ctr (fun x => i_heldIn.f k x.1 x.2.1 x.2.2)) := sig_ok i_heldIn.s .nil (by kernel_rfl) fun _ => opq_eq _
noncomputable def i_heldIn.l0 (k : Nat) (m : Nat) (t8 : List ByteArray) (t9 : Int) (t10 : Int) (h1 : List Int) : Option (List Int) := i_heldIn.s.head Try.prog (i_heldIn.C k) k 1 0 [] m [(3, AV.ref 1), (8, AV.row 9 Kind.str t8), (9, AV.int IntKind.i64 t9), (10, AV.int IntKind.i64 t10)] [Root.dead, Root.rows 3 (Kind.int IntKind.i64) h1]
theorem i_heldIn.l0_z (k : Nat) (t8 : List ByteArray) (t9 : Int) (t10 : Int) (h1 : List Int) : i_heldIn.l0 k 0 t8 t9 t10 h1 = none := by kernel_rfl
theorem i_heldIn.l0_s (k : Nat) (m : Nat) (t8 : List ByteArray) (t9 : Int) (t10 : Int) (h1 : List Int) : i_heldIn.l0 k (m + 1) t8 t9 t10 h1 =
 cn (decide (t10 < t9))
 (gd (inb t10 t8.length)
  (cn (!decide ((getAt ByteArray.empty t8 t10.toNat).toList = ByteArray.empty.toList))
   (gd (appOk (h1.length + [t10].length) (Try.prog.bytesOf (3 : Nat)))
    (i_heldIn.l0 k m t8 t9 (IntKind.i64.wrap (t10 + (1 : Int))) (h1 ++ [t10])))
   (i_heldIn.l0 k m t8 t9 (IntKind.i64.wrap (t10 + (1 : Int))) h1)))
 (some h1) := by kernel_rfl
theorem i_heldIn.f_eq (k : Nat) (d_Plate : List ByteArray) (d_Held : List ByteArray) (d_Bad : List Bool) : i_heldIn.f k d_Plate d_Held d_Bad =
 i_heldIn.l0 k k d_Held ((↑d_Held.length : Int)) ((0 : Int)) ([]) := (opq_eq _).trans (by kernel_rfl)
abbrev b_Index_int.s : Sig := ⟨110, [], [.val, .val], [.one (.row 3 (.int .i64)), .one (.int .i64)], [.one (.int .i64)], [], [(0, [(0,false),(1,false),(7,false),(8,false)])]⟩
noncomputable def b_Index_int.C (k : Nat) : List (Nat × Ctr) := []
noncomputable def b_Index_int.f (k : Nat) (s : List Int) (v : Int) : Option Int := opq (b_Index_int.s.run Try.prog (b_Index_int.C k) k (s, v))
theorem b_Index_int.ok (k : Nat) : CtrOk Try.prog 110 (b_Index_int.s.ctr (fun x => b_Index_int.f k x.1 x.2)) := sig_ok b_Index_int.s .nil (by kernel_rfl) fun _ => opq_eq _
noncomputable def b_Index_int.l0 (k : Nat) (m : Nat) (s0 : List Int) (v1 : Int) (t7 : Int) (t8 : Int) : Option Int := b_Index_int.s.head Try.prog (b_Index_int.C k) k 1 0 [] m [(0, AV.row 3 (Kind.int IntKind.i64) s0), (1, AV.int IntKind.i64 v1), (7, AV.int IntKind.i64 t7), (8, AV.int IntKind.i64 t8)] [Root.dead]
theorem b_Index_int.l0_z (k : Nat) (s0 : List Int) (v1 : Int) (t7 : Int) (t8 : Int) : b_Index_int.l0 k 0 s0 v1 t7 t8 = none := by kernel_rfl
theorem b_Index_int.l0_s (k : Nat) (m : Nat) (s0 : List Int) (v1 : Int) (t7 : Int) (t8 : Int) : b_Index_int.l0 k (m + 1) s0 v1 t7 t8 =
 cn (decide (t8 < t7))
 (gd (inb t8 s0.length)
  (cn (decide (v1 = getAt (0 : Int) s0 t8.toNat))
   (some t8)
   (b_Index_int.l0 k m s0 v1 t7 (IntKind.i64.wrap (t8 + (1 : Int))))))
 (some ((-1 : Int))) := by kernel_rfl
theorem b_Index_int.f_eq (k : Nat) (s : List Int) (v : Int) : b_Index_int.f k s v =
 b_Index_int.l0 k k s v ((↑s.length : Int)) ((0 : Int)) := (opq_eq _).trans (by kernel_rfl)
abbrev b_Contains_int.s : Sig := ⟨86, [], [.val, .val], [.one (.row 3 (.int .i64)), .one (.int .i64)], [.one .bool], [], []⟩
noncomputable def b_Contains_int.C (k : Nat) : List (Nat × Ctr) := [(110, b_Index_int.s.ctr (fun x => b_Index_int.f k x.1 x.2))]
noncomputable def b_Contains_int.f (k : Nat) (s : List Int) (v : Int) : Option Bool := opq (b_Contains_int.s.run Try.prog (b_Contains_int.C k) k (s, v))
theorem b_Contains_int.ok (k : Nat) : CtrOk Try.prog 86 (b_Contains_int.s.ctr (fun x => b_Contains_int.f k x.1 x.2)) := sig_ok b_Contains_int.s (.cons (b_Index_int.ok k) .nil) (by kernel_rfl) fun _ => opq_eq _
theorem b_Contains_int.f_eq (k : Nat) (s : List Int) (v : Int) : b_Contains_int.f k s v =
 (b_Index_int.f k s v).bind fun d0 =>
 some (decide ((0 : Int) ≤ d0)) := (opq_eq _).trans (by kernel_rfl)
abbrev i_crashed.s : Sig := ⟨62, [], [.val, .val], [.agg [.row 9 .str, .row 9 .str, .row 4 .bool], .one (.row 3 (.int .i64))], [.agg [.own 9 .str, .own 9 .str, .own 4 .bool]], [], [(0, [(1,false),(4,false),(5,false),(11,false),(12,false)])]⟩
noncomputable def i_crashed.C (k : Nat) : List (Nat × Ctr) := [(72, i_ownDisk.s.ctr (fun x => i_ownDisk.f k x.1 x.2.1 x.2.2)), (86, b_Contains_int.s.ctr (fun x => b_Contains_int.f k x.1 x.2))]
noncomputable def i_crashed.f (k : Nat) (d_Plate : List ByteArray) (d_Held : List ByteArray) (d_Bad : List Bool) (kept : List Int) : Option (List ByteArray × List ByteArray × List Bool) := opq (i_crashed.s.run Try.prog (i_crashed.C k) k ((d_Plate, d_Held, d_Bad), kept))
theorem i_crashed.ok (k : Nat) : CtrOk Try.prog 62 (i_crashed.s.ctr (fun x => i_crashed.f k x.1.1 x.1.2.1 x.1.2.2 x.2)) := sig_ok i_crashed.s (.cons (i_ownDisk.ok k) (.cons (b_Contains_int.ok k) .nil)) (by kernel_rfl) fun _ => opq_eq _
noncomputable def i_crashed.l0 (k : Nat) (m : Nat) (kept1 : List Int) (t11 : Int) (t12 : Int) (h2 : List ByteArray) (h3 : List ByteArray) (h4 : List Bool) : Option (List ByteArray × List ByteArray × List Bool) := i_crashed.s.head Try.prog (i_crashed.C k) k 1 0 [] m [(1, AV.row 3 (Kind.int IntKind.i64) kept1), (4, AV.ptr 1 0 0), (5, AV.ptr 5 0 0), (11, AV.int IntKind.i64 t11), (12, AV.int IntKind.i64 t12)] [Root.dead, Root.box 26 [AV.nil 9 Kind.str, AV.nil 9 Kind.str, AV.nil 4 Kind.bool], Root.rows 9 Kind.str h2, Root.rows 9 Kind.str h3, Root.rows 4 Kind.bool h4, Root.box 26 [AV.ref 2, AV.ref 3, AV.ref 4]]
theorem i_crashed.l0_z (k : Nat) (kept1 : List Int) (t11 : Int) (t12 : Int) (h2 : List ByteArray) (h3 : List ByteArray) (h4 : List Bool) : i_crashed.l0 k 0 kept1 t11 t12 h2 h3 h4 = none := by kernel_rfl
theorem i_crashed.l0_s (k : Nat) (m : Nat) (kept1 : List Int) (t11 : Int) (t12 : Int) (h2 : List ByteArray) (h3 : List ByteArray) (h4 : List Bool) : i_crashed.l0 k (m + 1) kept1 t11 t12 h2 h3 h4 =
 cn (decide (t12 < t11))
 ((b_Contains_int.f k kept1 t12).bind fun d1 =>
  cn d1
  (gd (inb t12 h3.length)
   (gd (inb t12 h2.length)
    (gd (inb t12 h3.length)
     (i_crashed.l0 k m kept1 t11 (IntKind.i64.wrap (t12 + (1 : Int))) (h2.set t12.toNat (getAt ByteArray.empty h3 t12.toNat)) (h3.set t12.toNat ByteArray.empty) h4))))
  (gd (inb t12 h3.length)
   (i_crashed.l0 k m kept1 t11 (IntKind.i64.wrap (t12 + (1 : Int))) h2 (h3.set t12.toNat ByteArray.empty) h4)))
 (some ((h2, h3, h4))) := by kernel_rfl
theorem i_crashed.f_eq (k : Nat) (d_Plate : List ByteArray) (d_Held : List ByteArray) (d_Bad : List Bool) (kept : List Int) : i_crashed.f k d_Plate d_Held d_Bad kept =
 (i_ownDisk.f k d_Plate d_Held d_Bad).bind fun d0 =>
 i_crashed.l0 k k kept ((↑d0.snd.fst.length : Int)) ((0 : Int)) d0.fst d0.snd.fst d0.snd.snd := (opq_eq _).trans (by kernel_rfl)
abbrev i_isOnly.s : Sig := ⟨106, [], [.val, .val, .val, .val], [.agg [.int .i64, .int .i64, .str, .row 3 (.int .i64)], .one .bool, .one .bool, .one .bool], [.one .bool], [], []⟩
noncomputable def i_isOnly.C (k : Nat) : List (Nat × Ctr) := []
noncomputable def i_isOnly.f (k : Nat) (x_Kind : Int) (x_At : Int) (x_Text : ByteArray) (x_Kept : List Int) (at_ : Bool) (text : Bool) (kept : Bool) : Option Bool := opq (i_isOnly.s.run Try.prog (i_isOnly.C k) k ((x_Kind, x_At, x_Text, x_Kept), at_, text, kept))
theorem i_isOnly.ok (k : Nat) : CtrOk Try.prog 106 (i_isOnly.s.ctr (fun x => i_isOnly.f k x.1.1 x.1.2.1 x.1.2.2.1 x.1.2.2.2 x.2.1 x.2.2.1 x.2.2.2)) := sig_ok i_isOnly.s .nil (by kernel_rfl) fun _ => opq_eq _
theorem i_isOnly.f_eq (k : Nat) (x_Kind : Int) (x_At : Int) (x_Text : ByteArray) (x_Kept : List Int) (at_ : Bool) (text : Bool) (kept : Bool) : i_isOnly.f k x_Kind x_At x_Text x_Kept at_ text kept =
 cn at_
 (cn text
  (cn kept
   (some true)
   (some (decide ((↑x_Kept.length : Int) = (0 : Int)))))
  (cn (decide (x_Text.toList = ByteArray.empty.toList))
   (cn kept
    (some true)
    (some (decide ((↑x_Kept.length : Int) = (0 : Int)))))
   (some false)))
 (cn (decide (x_At = (0 : Int)))
  (cn text
   (cn kept
    (some true)
    (some (decide ((↑x_Kept.length : Int) = (0 : Int)))))
   (cn (decide (x_Text.toList = ByteArray.empty.toList))
    (cn kept
     (some true)
     (some (decide ((↑x_Kept.length : Int) = (0 : Int)))))
    (some false)))
  (some false)) := (opq_eq _).trans (by kernel_rfl)
abbrev i_isRising.s : Sig := ⟨124, [], [.val, .val], [.one (.row 3 (.int .i64)), .one (.int .i64)], [.one .bool], [], [(0, [(0,false),(1,false),(7,true),(8,false),(9,false)])]⟩
noncomputable def i_isRising.C (k : Nat) : List (Nat × Ctr) := [(30, i_within.s.ctr (fun x => i_within.f k x.1 x.2.1 x.2.2))]
noncomputable def i_isRising.f (k : Nat) (list : List Int) (below : Int) : Option Bool := opq (i_isRising.s.run Try.prog (i_isRising.C k) k (list, below))
theorem i_isRising.ok (k : Nat) : CtrOk Try.prog 124 (i_isRising.s.ctr (fun x => i_isRising.f k x.1 x.2)) := sig_ok i_isRising.s (.cons (i_within.ok k) .nil) (by kernel_rfl) fun _ => opq_eq _
noncomputable def i_isRising.l0 (k : Nat) (m : Nat) (list0 : List Int) (below1 : Int) (t7 : List Int) (t8 : Int) (t9 : Int) : Option Bool := i_isRising.s.head Try.prog (i_isRising.C k) k 1 0 [] m [(0, AV.row 3 (Kind.int IntKind.i64) list0), (1, AV.int IntKind.i64 below1), (7, AV.row 3 (Kind.int IntKind.i64) t7), (8, AV.int IntKind.i64 t8), (9, AV.int IntKind.i64 t9)] [Root.dead]
theorem i_isRising.l0_z (k : Nat) (list0 : List Int) (below1 : Int) (t7 : List Int) (t8 : Int) (t9 : Int) : i_isRising.l0 k 0 list0 below1 t7 t8 t9 = none := by kernel_rfl
theorem i_isRising.l0_s (k : Nat) (m : Nat) (list0 : List Int) (below1 : Int) (t7 : List Int) (t8 : Int) (t9 : Int) : i_isRising.l0 k (m + 1) list0 below1 t7 t8 t9 =
 cn (decide (t9 < t8))
 (gd (inb t9 t7.length)
  ((i_within.f k (getAt (0 : Int) t7 t9.toNat) (0 : Int) (IntKind.i64.wrap (below1 - (1 : Int)))).bind fun d0 =>
   cn (!d0)
   (some false)
   (cn (decide ((0 : Int) < t9))
    (gd (inb (IntKind.i64.wrap (t9 - (1 : Int))) list0.length)
     (cn (decide (getAt (0 : Int) t7 t9.toNat ≤ getAt (0 : Int) list0 (IntKind.i64.wrap (t9 - (1 : Int))).toNat))
      (some false)
      (i_isRising.l0 k m list0 below1 t7 t8 (IntKind.i64.wrap (t9 + (1 : Int))))))
    (i_isRising.l0 k m list0 below1 t7 t8 (IntKind.i64.wrap (t9 + (1 : Int)))))))
 (some true) := by kernel_rfl
theorem i_isRising.f_eq (k : Nat) (list : List Int) (below : Int) : i_isRising.f k list below =
 i_isRising.l0 k k list below list ((↑list.length : Int)) ((0 : Int)) := (opq_eq _).trans (by kernel_rfl)
abbrev i_areHeld_1.s : Sig := ⟨125, [], [.val, .pbox 26], [.one (.int .i64), .agg [.row 9 .str, .row 9 .str, .row 4 .bool]], [.one .bool], [.box 26 [.row 9 .str, .row 9 .str, .row 4 .bool]], []⟩
noncomputable def i_areHeld_1.C (k : Nat) : List (Nat × Ctr) := []
noncomputable def i_areHeld_1.f (k : Nat) (at_ : Int) (free_c0_Plate : List ByteArray) (free_c0_Held : List ByteArray) (free_c0_Bad : List Bool) : Option (Bool × (List ByteArray × List ByteArray × List Bool)) := opq (i_areHeld_1.s.run Try.prog (i_areHeld_1.C k) k (at_, (free_c0_Plate, free_c0_Held, free_c0_Bad)))
theorem i_areHeld_1.ok (k : Nat) : CtrOk Try.prog 125 (i_areHeld_1.s.ctr (fun x => i_areHeld_1.f k x.1 x.2.1 x.2.2.1 x.2.2.2)) := sig_ok i_areHeld_1.s .nil (by kernel_rfl) fun _ => opq_eq _
theorem i_areHeld_1.f_eq (k : Nat) (at_ : Int) (free_c0_Plate : List ByteArray) (free_c0_Held : List ByteArray) (free_c0_Bad : List Bool) : i_areHeld_1.f k at_ free_c0_Plate free_c0_Held free_c0_Bad =
 gd (inb at_ free_c0_Held.length)
 (some ((decide ((getAt ByteArray.empty free_c0_Held at_.toNat).toList = ByteArray.empty.toList), free_c0_Plate, free_c0_Held, free_c0_Bad))) := (opq_eq _).trans (by kernel_rfl)
abbrev b_IndexFunc_int__i_areHeld_1.s : Sig := ⟨111, [.one, .clo 125 1], [.val, .pbox 26], [.one (.row 3 (.int .i64)), .agg [.row 9 .str, .row 9 .str, .row 4 .bool]], [.one (.int .i64)], [.box 26 [.row 9 .str, .row 9 .str, .row 4 .bool]], [(0, [(0,false),(1,false),(7,false),(8,false)])]⟩
noncomputable def b_IndexFunc_int__i_areHeld_1.C (k : Nat) : List (Nat × Ctr) := [(125, i_areHeld_1.s.ctr (fun x => i_areHeld_1.f k x.1 x.2.1 x.2.2.1 x.2.2.2))]
noncomputable def b_IndexFunc_int__i_areHeld_1.f (k : Nat) (s : List Int) (f_c0_Plate : List ByteArray) (f_c0_Held : List ByteArray) (f_c0_Bad : List Bool) : Option (Int × (List ByteArray × List ByteArray × List Bool)) := opq (b_IndexFunc_int__i_areHeld_1.s.run Try.prog (b_IndexFunc_int__i_areHeld_1.C k) k (s, (f_c0_Plate, f_c0_Held, f_c0_Bad)))
theorem b_IndexFunc_int__i_areHeld_1.ok (k : Nat) : CtrOk Try.prog 111 (b_IndexFunc_int__i_areHeld_1.s.ctr (fun x => b_IndexFunc_int__i_areHeld_1.f k x.1 x.2.1 x.2.2.1 x.2.2.2)) := sig_ok b_IndexFunc_int__i_areHeld_1.s (.cons (i_areHeld_1.ok k) .nil) (by kernel_rfl) fun _ => opq_eq _
noncomputable def b_IndexFunc_int__i_areHeld_1.l0 (k : Nat) (m : Nat) (s0 : List Int) (t7 : Int) (t8 : Int) (h1 : List ByteArray) (h1_ : List ByteArray) (h1__ : List Bool) : Option (Int × (List ByteArray × List ByteArray × List Bool)) := b_IndexFunc_int__i_areHeld_1.s.head Try.prog (b_IndexFunc_int__i_areHeld_1.C k) k 2 0 [] m [(0, AV.row 3 (Kind.int IntKind.i64) s0), (1, AV.clo 125 [AV.ptr 1 0 0]), (7, AV.int IntKind.i64 t7), (8, AV.int IntKind.i64 t8)] [Root.dead, Root.box 26 [AV.row 9 Kind.str h1, AV.row 9 Kind.str h1_, AV.row 4 Kind.bool h1__]]
theorem b_IndexFunc_int__i_areHeld_1.l0_z (k : Nat) (s0 : List Int) (t7 : Int) (t8 : Int) (h1 : List ByteArray) (h1_ : List ByteArray) (h1__ : List Bool) : b_IndexFunc_int__i_areHeld_1.l0 k 0 s0 t7 t8 h1 h1_ h1__ = none := by kernel_rfl
theorem b_IndexFunc_int__i_areHeld_1.l0_s (k : Nat) (m : Nat) (s0 : List Int) (t7 : Int) (t8 : Int) (h1 : List ByteArray) (h1_ : List ByteArray) (h1__ : List Bool) : b_IndexFunc_int__i_areHeld_1.l0 k (m + 1) s0 t7 t8 h1 h1_ h1__ =
 cn (decide (t8 < t7))
 (gd (inb t8 s0.length)
  ((i_areHeld_1.f k (getAt (0 : Int) s0 t8.toNat) h1 h1_ h1__).bind fun d0 =>
   cn d0.fst
   (some ((t8, d0.snd.fst, d0.snd.snd.fst, d0.snd.snd.snd)))
   (b_IndexFunc_int__i_areHeld_1.l0 k m s0 t7 (IntKind.i64.wrap (t8 + (1 : Int))) d0.snd.fst d0.snd.snd.fst d0.snd.snd.snd)))
 (some (((-1 : Int), h1, h1_, h1__))) := by kernel_rfl
theorem b_IndexFunc_int__i_areHeld_1.f_eq (k : Nat) (s : List Int) (f_c0_Plate : List ByteArray) (f_c0_Held : List ByteArray) (f_c0_Bad : List Bool) : b_IndexFunc_int__i_areHeld_1.f k s f_c0_Plate f_c0_Held f_c0_Bad =
 b_IndexFunc_int__i_areHeld_1.l0 k k s ((↑s.length : Int)) ((0 : Int)) f_c0_Plate f_c0_Held f_c0_Bad := (opq_eq _).trans (by kernel_rfl)
abbrev b_ContainsFunc_int__i_areHeld_1.s : Sig := ⟨87, [.one, .clo 125 1], [.val, .pbox 26], [.one (.row 3 (.int .i64)), .agg [.row 9 .str, .row 9 .str, .row 4 .bool]], [.one .bool], [.box 26 [.row 9 .str, .row 9 .str, .row 4 .bool]], []⟩
noncomputable def b_ContainsFunc_int__i_areHeld_1.C (k : Nat) : List (Nat × Ctr) := [(111, b_IndexFunc_int__i_areHeld_1.s.ctr (fun x => b_IndexFunc_int__i_areHeld_1.f k x.1 x.2.1 x.2.2.1 x.2.2.2))]
noncomputable def b_ContainsFunc_int__i_areHeld_1.f (k : Nat) (s : List Int) (f_c0_Plate : List ByteArray) (f_c0_Held : List ByteArray) (f_c0_Bad : List Bool) : Option (Bool × (List ByteArray × List ByteArray × List Bool)) := opq (b_ContainsFunc_int__i_areHeld_1.s.run Try.prog (b_ContainsFunc_int__i_areHeld_1.C k) k (s, (f_c0_Plate, f_c0_Held, f_c0_Bad)))
theorem b_ContainsFunc_int__i_areHeld_1.ok (k : Nat) : CtrOk Try.prog 87 (b_ContainsFunc_int__i_areHeld_1.s.ctr (fun x => b_ContainsFunc_int__i_areHeld_1.f k x.1 x.2.1 x.2.2.1 x.2.2.2)) := sig_ok b_ContainsFunc_int__i_areHeld_1.s (.cons (b_IndexFunc_int__i_areHeld_1.ok k) .nil) (by kernel_rfl) fun _ => opq_eq _
theorem b_ContainsFunc_int__i_areHeld_1.f_eq (k : Nat) (s : List Int) (f_c0_Plate : List ByteArray) (f_c0_Held : List ByteArray) (f_c0_Bad : List Bool) : b_ContainsFunc_int__i_areHeld_1.f k s f_c0_Plate f_c0_Held f_c0_Bad =
 (b_IndexFunc_int__i_areHeld_1.f k s f_c0_Plate f_c0_Held f_c0_Bad).bind fun d0 =>
 some ((decide ((0 : Int) ≤ d0.fst), d0.snd.fst, d0.snd.snd.fst, d0.snd.snd.snd)) := (opq_eq _).trans (by kernel_rfl)
abbrev i_areHeld.s : Sig := ⟨107, [], [.val, .val], [.agg [.row 9 .str, .row 9 .str, .row 4 .bool], .one (.row 3 (.int .i64))], [.one .bool], [], []⟩
noncomputable def i_areHeld.C (k : Nat) : List (Nat × Ctr) := [(124, i_isRising.s.ctr (fun x => i_isRising.f k x.1 x.2)), (87, b_ContainsFunc_int__i_areHeld_1.s.ctr (fun x => b_ContainsFunc_int__i_areHeld_1.f k x.1 x.2.1 x.2.2.1 x.2.2.2))]
noncomputable def i_areHeld.f (k : Nat) (d_Plate : List ByteArray) (d_Held : List ByteArray) (d_Bad : List Bool) (kept : List Int) : Option Bool := opq (i_areHeld.s.run Try.prog (i_areHeld.C k) k ((d_Plate, d_Held, d_Bad), kept))
theorem i_areHeld.ok (k : Nat) : CtrOk Try.prog 107 (i_areHeld.s.ctr (fun x => i_areHeld.f k x.1.1 x.1.2.1 x.1.2.2 x.2)) := sig_ok i_areHeld.s (.cons (i_isRising.ok k) (.cons (b_ContainsFunc_int__i_areHeld_1.ok k) .nil)) (by kernel_rfl) fun _ => opq_eq _
theorem i_areHeld.f_eq (k : Nat) (d_Plate : List ByteArray) (d_Held : List ByteArray) (d_Bad : List Bool) (kept : List Int) : i_areHeld.f k d_Plate d_Held d_Bad kept =
 (i_isRising.f k kept (↑d_Plate.length : Int)).bind fun d0 =>
 cn d0
 ((b_ContainsFunc_int__i_areHeld_1.f k kept d_Plate d_Held d_Bad).bind fun d1 =>
  some (!d1.fst))
 (some false) := (opq_eq _).trans (by kernel_rfl)
abbrev i_Disk_has.s : Sig := ⟨108, [], [.val, .val], [.agg [.row 9 .str, .row 9 .str, .row 4 .bool], .one (.int .i64)], [.one .bool], [], []⟩
noncomputable def i_Disk_has.C (k : Nat) : List (Nat × Ctr) := [(30, i_within.s.ctr (fun x => i_within.f k x.1 x.2.1 x.2.2))]
noncomputable def i_Disk_has.f (k : Nat) (d_Plate : List ByteArray) (d_Held : List ByteArray) (d_Bad : List Bool) (at_ : Int) : Option Bool := opq (i_Disk_has.s.run Try.prog (i_Disk_has.C k) k ((d_Plate, d_Held, d_Bad), at_))
theorem i_Disk_has.ok (k : Nat) : CtrOk Try.prog 108 (i_Disk_has.s.ctr (fun x => i_Disk_has.f k x.1.1 x.1.2.1 x.1.2.2 x.2)) := sig_ok i_Disk_has.s (.cons (i_within.ok k) .nil) (by kernel_rfl) fun _ => opq_eq _
theorem i_Disk_has.f_eq (k : Nat) (d_Plate : List ByteArray) (d_Held : List ByteArray) (d_Bad : List Bool) (at_ : Int) : i_Disk_has.f k d_Plate d_Held d_Bad at_ =
 (i_within.f k at_ (0 : Int) (IntKind.i64.wrap ((↑d_Plate.length : Int) - (1 : Int)))).bind fun d0 =>
 some d0 := (opq_eq _).trans (by kernel_rfl)
abbrev i_stepped.s : Sig := ⟨84, [], [.val, .val], [.agg [.row 9 .str, .row 9 .str, .row 4 .bool], .agg [.int .i64, .int .i64, .str, .row 3 (.int .i64)]], [.agg [.own 9 .str, .own 9 .str, .own 4 .bool], .one .bool], [], [(2, [(3,false),(4,false),(6,false),(7,true),(118,false),(119,false)]), (1000014, [(2,false),(3,false),(4,false),(6,false)])]⟩
noncomputable def i_stepped.C (k : Nat) : List (Nat × Ctr) := [(106, i_isOnly.s.ctr (fun x => i_isOnly.f k x.1.1 x.1.2.1 x.1.2.2.1 x.1.2.2.2 x.2.1 x.2.2.1 x.2.2.2)), (107, i_areHeld.s.ctr (fun x => i_areHeld.f k x.1.1 x.1.2.1 x.1.2.2 x.2)), (108, i_Disk_has.s.ctr (fun x => i_Disk_has.f k x.1.1 x.1.2.1 x.1.2.2 x.2)), (30, i_within.s.ctr (fun x => i_within.f k x.1 x.2.1 x.2.2)), (62, i_crashed.s.ctr (fun x => i_crashed.f k x.1.1 x.1.2.1 x.1.2.2 x.2)), (63, i_heldIn.s.ctr (fun x => i_heldIn.f k x.1 x.2.1 x.2.2)), (72, i_ownDisk.s.ctr (fun x => i_ownDisk.f k x.1 x.2.1 x.2.2))]
noncomputable def i_stepped.f (k : Nat) (d_Plate : List ByteArray) (d_Held : List ByteArray) (d_Bad : List Bool) (x_Kind : Int) (x_At : Int) (x_Text : ByteArray) (x_Kept : List Int) : Option ((List ByteArray × List ByteArray × List Bool) × Bool) := opq (i_stepped.s.run Try.prog (i_stepped.C k) k ((d_Plate, d_Held, d_Bad), (x_Kind, x_At, x_Text, x_Kept)))
theorem i_stepped.ok (k : Nat) : CtrOk Try.prog 84 (i_stepped.s.ctr (fun x => i_stepped.f k x.1.1 x.1.2.1 x.1.2.2 x.2.1 x.2.2.1 x.2.2.2.1 x.2.2.2.2)) := sig_ok i_stepped.s (.cons (i_isOnly.ok k) (.cons (i_areHeld.ok k) (.cons (i_Disk_has.ok k) (.cons (i_within.ok k) (.cons (i_crashed.ok k) (.cons (i_heldIn.ok k) (.cons (i_ownDisk.ok k) .nil))))))) (by kernel_rfl) fun _ => opq_eq _
noncomputable def i_stepped.l1000014 (k : Nat) (m : Nat) (h1 : List ByteArray) (h1_ : List ByteArray) (h1__ : List Bool) (h2 : Int) (h2_ : Int) (h2__ : ByteArray) (h2___ : List Int) (h4 : List ByteArray) (h5 : List ByteArray) (h6 : List Bool) : Option ((List ByteArray × List ByteArray × List Bool) × Bool) := i_stepped.s.head Try.prog (i_stepped.C k) k 1 1000014 [] m [(2, AV.ptr 1 0 0), (3, AV.ptr 2 0 0), (4, AV.ptr 3 0 0), (6, AV.ptr 7 0 0)] [Root.dead, Root.box 26 [AV.row 9 Kind.str h1, AV.row 9 Kind.str h1_, AV.row 4 Kind.bool h1__], Root.box 90 [AV.int IntKind.i64 h2, AV.int IntKind.i64 h2_, AV.str h2__, AV.row 3 (Kind.int IntKind.i64) h2___], Root.box 26 [AV.nil 9 Kind.str, AV.nil 9 Kind.str, AV.nil 4 Kind.bool], Root.rows 9 Kind.str h4, Root.rows 9 Kind.str h5, Root.rows 4 Kind.bool h6, Root.box 26 [AV.ref 4, AV.ref 5, AV.ref 6]]
noncomputable def i_stepped.l2 (k : Nat) (m : Nat) (t118 : Int) (t119 : Int) (h1 : Int) (h1_ : Int) (h1__ : ByteArray) (h1___ : List Int) (h3 : List ByteArray) (h4 : List ByteArray) (h5 : List Bool) (h7 : List Int) : Option ((List ByteArray × List ByteArray × List Bool) × Bool) := i_stepped.s.head Try.prog (i_stepped.C k) k 1 2 [] m [(3, AV.ptr 1 0 0), (4, AV.ptr 2 0 0), (6, AV.ptr 6 0 0), (7, AV.ref 7), (118, AV.int IntKind.i64 t118), (119, AV.int IntKind.i64 t119)] [Root.dead, Root.box 90 [AV.int IntKind.i64 h1, AV.int IntKind.i64 h1_, AV.str h1__, AV.row 3 (Kind.int IntKind.i64) h1___], Root.box 26 [AV.nil 9 Kind.str, AV.nil 9 Kind.str, AV.nil 4 Kind.bool], Root.rows 9 Kind.str h3, Root.rows 9 Kind.str h4, Root.rows 4 Kind.bool h5, Root.box 26 [AV.ref 3, AV.ref 4, AV.ref 5], Root.rows 5 (Kind.int IntKind.u8) h7]
theorem i_stepped.l1000014_s (k : Nat) (m : Nat) (h1 : List ByteArray) (h1_ : List ByteArray) (h1__ : List Bool) (h2 : Int) (h2_ : Int) (h2__ : ByteArray) (h2___ : List Int) (h4 : List ByteArray) (h5 : List ByteArray) (h6 : List Bool) : i_stepped.l1000014 k m h1 h1_ h1__ h2 h2_ h2__ h2___ h4 h5 h6 =
 cn (decide (h2 = (1 : Int)))
 (gd (inb h2_ h5.length)
  (gd (inb h2_ h1__.length)
   (cn (!getAt false h1__ h2_.toNat)
    ((i_within.f k (↑h2__.size : Int) (1 : Int) (28 : Int)).bind fun d4 =>
     some (((h4, h5.set h2_.toNat h2__, h6), d4)))
    (some (((h4, h5.set h2_.toNat h2__, h6), false))))))
 (cn (decide (h2 = (4 : Int)))
  (gd (inb h2_ h1_.length)
   (cn (!decide ((getAt ByteArray.empty h1_ h2_.toNat).toList = ByteArray.empty.toList))
    (some ((([], [], []), false)))
    (gd (inb h2_ h1.length)
     ((i_within.f k (↑h2__.size : Int) (1 : Int) (↑(getAt ByteArray.empty h1 h2_.toNat).size : Int)).bind fun d4 =>
      cn (!d4)
      (some ((([], [], []), false)))
      (gd (inb h2_ h1.length)
       (gd (decide ((getAt ByteArray.empty h1 h2_.toNat).size ≤ (70368744177664 : Nat)))
        (i_stepped.l2 k k ((↑h2__.size : Int)) ((0 : Int)) h2 h2_ h2__ h2___ h4 h5 h6 (bytesL (getAt ByteArray.empty h1 h2_.toNat)))))))))
  (cn (decide (h2 = (5 : Int)))
   (gd (inb h2_ h6.length)
    (both
     (dup
      (gd (inb h2_ h5.length)
       (some (((h4, h5.set h2_.toNat ByteArray.empty, h6.set h2_.toNat true), true)))))
     (both
      (dup
       (gd (inb h2_ h5.length)
        (some (((h4, h5.set h2_.toNat ByteArray.empty, h6.set h2_.toNat true), true)))))
      (gd (inb h2_ h5.length)
       (some (((h4, h5.set h2_.toNat ByteArray.empty, h6.set h2_.toNat true), true)))))))
   (gd (inb h2_ h6.length)
    (both
     (dup
      (gd (inb h2_ h4.length)
       (both
        (both
         (both
          (gd (inb h2_ h1__.length)
           (dup
            (some (((h4.set h2_.toNat ByteArray.empty, h5, h6.set h2_.toNat false), getAt false h1__ h2_.toNat)))))
          (gd (inb h2_ h1__.length)
           (some (((h4.set h2_.toNat ByteArray.empty, h5, h6.set h2_.toNat false), getAt false h1__ h2_.toNat)))))
         (gd (inb h2_ h1__.length)
          (some (((h4.set h2_.toNat ByteArray.empty, h5, h6.set h2_.toNat false), getAt false h1__ h2_.toNat)))))
        (both
         (both
          (both
           (gd (inb h2_ h1__.length)
            (dup
             (some (((h4.set h2_.toNat ByteArray.empty, h5, h6.set h2_.toNat false), getAt false h1__ h2_.toNat)))))
           (gd (inb h2_ h1__.length)
            (some (((h4.set h2_.toNat ByteArray.empty, h5, h6.set h2_.toNat false), getAt false h1__ h2_.toNat)))))
          (gd (inb h2_ h1__.length)
           (some (((h4.set h2_.toNat ByteArray.empty, h5, h6.set h2_.toNat false), getAt false h1__ h2_.toNat)))))
         (gd (inb h2_ h1__.length)
          (some (((h4.set h2_.toNat ByteArray.empty, h5, h6.set h2_.toNat false), getAt false h1__ h2_.toNat))))))))
     (both
      (dup
       (gd (inb h2_ h4.length)
        (both
         (both
          (both
           (gd (inb h2_ h1__.length)
            (dup
             (some (((h4.set h2_.toNat ByteArray.empty, h5, h6.set h2_.toNat false), getAt false h1__ h2_.toNat)))))
           (gd (inb h2_ h1__.length)
            (some (((h4.set h2_.toNat ByteArray.empty, h5, h6.set h2_.toNat false), getAt false h1__ h2_.toNat)))))
          (gd (inb h2_ h1__.length)
           (some (((h4.set h2_.toNat ByteArray.empty, h5, h6.set h2_.toNat false), getAt false h1__ h2_.toNat)))))
         (both
          (both
           (both
            (gd (inb h2_ h1__.length)
             (dup
              (some (((h4.set h2_.toNat ByteArray.empty, h5, h6.set h2_.toNat false), getAt false h1__ h2_.toNat)))))
            (gd (inb h2_ h1__.length)
             (some (((h4.set h2_.toNat ByteArray.empty, h5, h6.set h2_.toNat false), getAt false h1__ h2_.toNat)))))
           (gd (inb h2_ h1__.length)
            (some (((h4.set h2_.toNat ByteArray.empty, h5, h6.set h2_.toNat false), getAt false h1__ h2_.toNat)))))
          (gd (inb h2_ h1__.length)
           (some (((h4.set h2_.toNat ByteArray.empty, h5, h6.set h2_.toNat false), getAt false h1__ h2_.toNat))))))))
      (gd (inb h2_ h4.length)
       (both
        (both
         (both
          (gd (inb h2_ h1__.length)
           (dup
            (some (((h4.set h2_.toNat ByteArray.empty, h5, h6.set h2_.toNat false), getAt false h1__ h2_.toNat)))))
          (gd (inb h2_ h1__.length)
           (some (((h4.set h2_.toNat ByteArray.empty, h5, h6.set h2_.toNat false), getAt false h1__ h2_.toNat)))))
         (gd (inb h2_ h1__.length)
          (some (((h4.set h2_.toNat ByteArray.empty, h5, h6.set h2_.toNat false), getAt false h1__ h2_.toNat)))))
        (both
         (both
          (both
           (gd (inb h2_ h1__.length)
            (dup
             (some (((h4.set h2_.toNat ByteArray.empty, h5, h6.set h2_.toNat false), getAt false h1__ h2_.toNat)))))
           (gd (inb h2_ h1__.length)
            (some (((h4.set h2_.toNat ByteArray.empty, h5, h6.set h2_.toNat false), getAt false h1__ h2_.toNat)))))
          (gd (inb h2_ h1__.length)
           (some (((h4.set h2_.toNat ByteArray.empty, h5, h6.set h2_.toNat false), getAt false h1__ h2_.toNat)))))
         (gd (inb h2_ h1__.length)
          (some (((h4.set h2_.toNat ByteArray.empty, h5, h6.set h2_.toNat false), getAt false h1__ h2_.toNat)))))))))))) := by kernel_rfl
theorem i_stepped.l2_z (k : Nat) (t118 : Int) (t119 : Int) (h1 : Int) (h1_ : Int) (h1__ : ByteArray) (h1___ : List Int) (h3 : List ByteArray) (h4 : List ByteArray) (h5 : List Bool) (h7 : List Int) : i_stepped.l2 k 0 t118 t119 h1 h1_ h1__ h1___ h3 h4 h5 h7 = none := by kernel_rfl
theorem i_stepped.l2_s (k : Nat) (m : Nat) (t118 : Int) (t119 : Int) (h1 : Int) (h1_ : Int) (h1__ : ByteArray) (h1___ : List Int) (h3 : List ByteArray) (h4 : List ByteArray) (h5 : List Bool) (h7 : List Int) : i_stepped.l2 k (m + 1) t118 t119 h1 h1_ h1__ h1___ h3 h4 h5 h7 =
 cn (decide (t119 < t118))
 (gd (inb t119 h7.length)
  (gd (inb t119 h1__.size)
   (gd (inb t119 h7.length)
    (i_stepped.l2 k m t118 (IntKind.i64.wrap (t119 + (1 : Int))) h1 h1_ h1__ h1___ h3 h4 h5 (h7.set t119.toNat (IntKind.u8.wrap (↑(BitVec.ofInt (8 : Nat) (getAt (0 : Int) h7 t119.toNat) ^^^ BitVec.ofInt (8 : Nat) (↑(h1__.data.getD t119.toNat (0 : UInt8)).toNat : Int)).toNat : Int)))))))
 (gd (inb h1_ h3.length)
  (some (((h3.set h1_.toNat (strOfNums h7), h4, h5), true)))) := by kernel_rfl
theorem i_stepped.f_eq (k : Nat) (d_Plate : List ByteArray) (d_Held : List ByteArray) (d_Bad : List Bool) (x_Kind : Int) (x_At : Int) (x_Text : ByteArray) (x_Kept : List Int) : i_stepped.f k d_Plate d_Held d_Bad x_Kind x_At x_Text x_Kept =
 (i_ownDisk.f k d_Plate d_Held d_Bad).bind fun d0 =>
 cn (decide (x_Kind = (2 : Int)))
 ((i_heldIn.f k d_Plate d_Held d_Bad).bind fun d1 =>
  (i_crashed.f k d_Plate d_Held d_Bad d1).bind fun d2 =>
  (i_isOnly.f k x_Kind x_At x_Text x_Kept false false false).bind fun d3 =>
  some (((d2.fst, d2.snd.fst, d2.snd.snd), d3)))
 (cn (decide (x_Kind = (3 : Int)))
  ((i_crashed.f k d_Plate d_Held d_Bad x_Kept).bind fun d1 =>
   (i_isOnly.f k x_Kind x_At x_Text x_Kept false false true).bind fun d2 =>
   cn d2
   ((i_areHeld.f k d_Plate d_Held d_Bad x_Kept).bind fun d3 =>
    some (((d1.fst, d1.snd.fst, d1.snd.snd), d3)))
   (some (((d1.fst, d1.snd.fst, d1.snd.snd), false))))
  (cn (decide (x_Kind = (1 : Int)))
   (cn (decide (x_Kind = (1 : Int)))
    ((i_Disk_has.f k d_Plate d_Held d_Bad x_At).bind fun d1 =>
     cn (!d1)
     (some ((([], [], []), false)))
     (cn (decide (x_Kind = (1 : Int)))
      ((i_isOnly.f k x_Kind x_At x_Text x_Kept true true false).bind fun d2 =>
       cn (!d2)
       (some ((([], [], []), false)))
       (i_stepped.l1000014 k 0 d_Plate d_Held d_Bad x_Kind x_At x_Text x_Kept d0.fst d0.snd.fst d0.snd.snd))
      ((i_isOnly.f k x_Kind x_At x_Text x_Kept true (decide (x_Kind = (4 : Int))) false).bind fun d2 =>
       cn (!d2)
       (some ((([], [], []), false)))
       (i_stepped.l1000014 k 0 d_Plate d_Held d_Bad x_Kind x_At x_Text x_Kept d0.fst d0.snd.fst d0.snd.snd))))
    (some ((([], [], []), false))))
   (cn (decide (x_Kind = (4 : Int)))
    (cn (decide (x_Kind = (4 : Int)))
     ((i_Disk_has.f k d_Plate d_Held d_Bad x_At).bind fun d1 =>
      cn (!d1)
      (some ((([], [], []), false)))
      (cn (decide (x_Kind = (1 : Int)))
       ((i_isOnly.f k x_Kind x_At x_Text x_Kept true true false).bind fun d2 =>
        cn (!d2)
        (some ((([], [], []), false)))
        (i_stepped.l1000014 k 0 d_Plate d_Held d_Bad x_Kind x_At x_Text x_Kept d0.fst d0.snd.fst d0.snd.snd))
       ((i_isOnly.f k x_Kind x_At x_Text x_Kept true (decide (x_Kind = (4 : Int))) false).bind fun d2 =>
        cn (!d2)
        (some ((([], [], []), false)))
        (i_stepped.l1000014 k 0 d_Plate d_Held d_Bad x_Kind x_At x_Text x_Kept d0.fst d0.snd.fst d0.snd.snd))))
     (some ((([], [], []), false))))
    (cn (decide (x_Kind = (5 : Int)))
     (cn (decide (x_Kind = (5 : Int)))
      ((i_Disk_has.f k d_Plate d_Held d_Bad x_At).bind fun d1 =>
       cn (!d1)
       (some ((([], [], []), false)))
       (cn (decide (x_Kind = (1 : Int)))
        ((i_isOnly.f k x_Kind x_At x_Text x_Kept true true false).bind fun d2 =>
         cn (!d2)
         (some ((([], [], []), false)))
         (i_stepped.l1000014 k 0 d_Plate d_Held d_Bad x_Kind x_At x_Text x_Kept d0.fst d0.snd.fst d0.snd.snd))
        ((i_isOnly.f k x_Kind x_At x_Text x_Kept true (decide (x_Kind = (4 : Int))) false).bind fun d2 =>
         cn (!d2)
         (some ((([], [], []), false)))
         (i_stepped.l1000014 k 0 d_Plate d_Held d_Bad x_Kind x_At x_Text x_Kept d0.fst d0.snd.fst d0.snd.snd))))
      (some ((([], [], []), false))))
     (cn (decide (x_Kind = (6 : Int)))
      ((i_Disk_has.f k d_Plate d_Held d_Bad x_At).bind fun d1 =>
       cn (!d1)
       (some ((([], [], []), false)))
       (cn (decide (x_Kind = (1 : Int)))
        ((i_isOnly.f k x_Kind x_At x_Text x_Kept true true false).bind fun d2 =>
         cn (!d2)
         (some ((([], [], []), false)))
         (i_stepped.l1000014 k 0 d_Plate d_Held d_Bad x_Kind x_At x_Text x_Kept d0.fst d0.snd.fst d0.snd.snd))
        ((i_isOnly.f k x_Kind x_At x_Text x_Kept true (decide (x_Kind = (4 : Int))) false).bind fun d2 =>
         cn (!d2)
         (some ((([], [], []), false)))
         (i_stepped.l1000014 k 0 d_Plate d_Held d_Bad x_Kind x_At x_Text x_Kept d0.fst d0.snd.fst d0.snd.snd))))
      (some ((([], [], []), false)))))))) := (opq_eq _).trans (by kernel_rfl)
abbrev i_writePiece.s : Sig := ⟨61, [], [.val, .val, .val, .val], [.agg [.row 9 .str, .row 9 .str, .row 4 .bool], .one (.int .i64), .one (.int .i64), .one (.row 3 (.int .i64))], [.agg [.own 9 .str, .own 9 .str, .own 4 .bool], .one .bool], [], []⟩
noncomputable def i_writePiece.C (k : Nat) : List (Nat × Ctr) := [(82, i_bodyOf.s.ctr (fun x => i_bodyOf.f k x)), (83, i_GoodFrame.s.ctr (fun x => i_GoodFrame.f k x.1 x.2.1 x.2.2.1 x.2.2.2)), (84, i_stepped.s.ctr (fun x => i_stepped.f k x.1.1 x.1.2.1 x.1.2.2 x.2.1 x.2.2.1 x.2.2.2.1 x.2.2.2.2)), (85, i_frameBytes.s.ctr (fun x => i_frameBytes.f k x.1 x.2.1 x.2.2.1 x.2.2.2))]
noncomputable def i_writePiece.f (k : Nat) (d_Plate : List ByteArray) (d_Held : List ByteArray) (d_Bad : List Bool) (at_ : Int) (epoch : Int) (piece : List Int) : Option ((List ByteArray × List ByteArray × List Bool) × Bool) := opq (i_writePiece.s.run Try.prog (i_writePiece.C k) k ((d_Plate, d_Held, d_Bad), at_, epoch, piece))
theorem i_writePiece.ok (k : Nat) : CtrOk Try.prog 61 (i_writePiece.s.ctr (fun x => i_writePiece.f k x.1.1 x.1.2.1 x.1.2.2 x.2.1 x.2.2.1 x.2.2.2)) := sig_ok i_writePiece.s (.cons (i_bodyOf.ok k) (.cons (i_GoodFrame.ok k) (.cons (i_stepped.ok k) (.cons (i_frameBytes.ok k) .nil)))) (by kernel_rfl) fun _ => opq_eq _
theorem i_writePiece.f_eq (k : Nat) (d_Plate : List ByteArray) (d_Held : List ByteArray) (d_Bad : List Bool) (at_ : Int) (epoch : Int) (piece : List Int) : i_writePiece.f k d_Plate d_Held d_Bad at_ epoch piece =
 (i_bodyOf.f k piece).bind fun d0 =>
 (i_GoodFrame.f k (2 : Int) at_ epoch d0).bind fun d1 =>
 cn (!d1)
 (some ((([], [], []), false)))
 ((i_frameBytes.f k (2 : Int) at_ epoch d0).bind fun d2 =>
  (i_stepped.f k d_Plate d_Held d_Bad (1 : Int) at_ d2 []).bind fun d3 =>
  some (((d3.fst.fst, d3.fst.snd.fst, d3.fst.snd.snd), d3.snd))) := (opq_eq _).trans (by kernel_rfl)
abbrev i_WriteStripe.s : Sig := ⟨32, [], [.val, .val, .val, .val], [.agg [.row 9 .str, .row 9 .str, .row 4 .bool], .one (.int .i64), .one (.int .i64), .one .str], [.agg [.own 9 .str, .own 9 .str, .own 4 .bool], .one .bool], [], [(0, [(1,false),(2,false),(8,false),(10,false),(27,true),(28,false),(29,false)]), (2000000, [])]⟩
noncomputable def i_WriteStripe.C (k : Nat) : List (Nat × Ctr) := [(59, i_fits.s.ctr (fun x => i_fits.f k x.1.1 x.1.2.1 x.1.2.2 x.2)), (60, i_piecesFor.s.ctr (fun x => i_piecesFor.f k x)), (61, i_writePiece.s.ctr (fun x => i_writePiece.f k x.1.1 x.1.2.1 x.1.2.2 x.2.1 x.2.2.1 x.2.2.2))]
noncomputable def i_WriteStripe.f (k : Nat) (d_Plate : List ByteArray) (d_Held : List ByteArray) (d_Bad : List Bool) (at_ : Int) (epoch : Int) (text : ByteArray) : Option ((List ByteArray × List ByteArray × List Bool) × Bool) := opq (i_WriteStripe.s.run Try.prog (i_WriteStripe.C k) k ((d_Plate, d_Held, d_Bad), at_, epoch, text))
theorem i_WriteStripe.ok (k : Nat) : CtrOk Try.prog 32 (i_WriteStripe.s.ctr (fun x => i_WriteStripe.f k x.1.1 x.1.2.1 x.1.2.2 x.2.1 x.2.2.1 x.2.2.2)) := sig_ok i_WriteStripe.s (.cons (i_fits.ok k) (.cons (i_piecesFor.ok k) (.cons (i_writePiece.ok k) .nil))) (by kernel_rfl) fun _ => opq_eq _
noncomputable def i_WriteStripe.l0 (k : Nat) (m : Nat) (at1 : Int) (epoch2 : Int) (t28 : Int) (t29 : Int) (h2 : List ByteArray) (h3 : List ByteArray) (h4 : List Bool) (h6 : List (List Int)) : Option ((List ByteArray × List ByteArray × List Bool) × Bool) := i_WriteStripe.s.head Try.prog (i_WriteStripe.C k) k 1 0 [] m [(1, AV.int IntKind.i64 at1), (2, AV.int IntKind.i64 epoch2), (8, AV.ptr 1 0 0), (10, AV.ptr 5 0 0), (27, AV.ref 6), (28, AV.int IntKind.i64 t28), (29, AV.int IntKind.i64 t29)] [Root.dead, Root.box 26 [AV.nil 9 Kind.str, AV.nil 9 Kind.str, AV.nil 4 Kind.bool], Root.rows 9 Kind.str h2, Root.rows 9 Kind.str h3, Root.rows 4 Kind.bool h4, Root.box 26 [AV.ref 2, AV.ref 3, AV.ref 4], Root.rows 27 (Kind.sl 3 (Kind.int IntKind.i64)) h6]
theorem i_WriteStripe.l0_z (k : Nat) (at1 : Int) (epoch2 : Int) (t28 : Int) (t29 : Int) (h2 : List ByteArray) (h3 : List ByteArray) (h4 : List Bool) (h6 : List (List Int)) : i_WriteStripe.l0 k 0 at1 epoch2 t28 t29 h2 h3 h4 h6 = none := by kernel_rfl
theorem i_WriteStripe.l0_s (k : Nat) (m : Nat) (at1 : Int) (epoch2 : Int) (t28 : Int) (t29 : Int) (h2 : List ByteArray) (h3 : List ByteArray) (h4 : List Bool) (h6 : List (List Int)) : i_WriteStripe.l0 k (m + 1) at1 epoch2 t28 t29 h2 h3 h4 h6 =
 cn (decide (t29 < t28))
 (gd (inb t29 h6.length)
  ((i_writePiece.f k h2 h3 h4 (IntKind.i64.wrap (at1 + t29)) epoch2 (getAt [] h6 t29.toNat)).bind fun d1 =>
   cn (!d1.snd)
   (some ((([], [], []), false)))
   (i_WriteStripe.l0 k m at1 epoch2 t28 (IntKind.i64.wrap (t29 + (1 : Int))) d1.fst.fst d1.fst.snd.fst d1.fst.snd.snd h6)))
 (some (((h2, h3, h4), true))) := by kernel_rfl
theorem i_WriteStripe.f_eq (k : Nat) (d_Plate : List ByteArray) (d_Held : List ByteArray) (d_Bad : List Bool) (at_ : Int) (epoch : Int) (text : ByteArray) : i_WriteStripe.f k d_Plate d_Held d_Bad at_ epoch text =
 (i_fits.f k d_Plate d_Held d_Bad at_).bind fun d0 =>
 cn (!d0)
 (some ((([], [], []), false)))
 (cn (decide ((48 : Int) ≤ (↑text.size : Int)))
  (some ((([], [], []), false)))
  ((i_piecesFor.f k text).bind fun d1 =>
   gd (decide ((0 : Int) < (↑(List.length d1) : Int)))
   (gd (inb (0 : Int) (List.length d1))
    ((i_writePiece.f k d_Plate d_Held d_Bad (IntKind.i64.wrap (at_ + (0 : Int))) epoch (getAt [] d1 (0 : Nat))).bind fun d2 =>
     cn (!d2.snd)
     (some ((([], [], []), false)))
     (i_WriteStripe.l0 k k at_ epoch ((↑(List.length d1) : Int)) (IntKind.i64.wrap ((0 : Int) + (1 : Int))) d2.fst.fst d2.fst.snd.fst d2.fst.snd.snd d1))))) := (opq_eq _).trans (by kernel_rfl)
abbrev i_synced.s : Sig := ⟨34, [], [.val], [.agg [.row 9 .str, .row 9 .str, .row 4 .bool]], [.agg [.own 9 .str, .own 9 .str, .own 4 .bool]], [], []⟩
noncomputable def i_synced.C (k : Nat) : List (Nat × Ctr) := [(62, i_crashed.s.ctr (fun x => i_crashed.f k x.1.1 x.1.2.1 x.1.2.2 x.2)), (63, i_heldIn.s.ctr (fun x => i_heldIn.f k x.1 x.2.1 x.2.2))]
noncomputable def i_synced.f (k : Nat) (d_Plate : List ByteArray) (d_Held : List ByteArray) (d_Bad : List Bool) : Option (List ByteArray × List ByteArray × List Bool) := opq (i_synced.s.run Try.prog (i_synced.C k) k (d_Plate, d_Held, d_Bad))
theorem i_synced.ok (k : Nat) : CtrOk Try.prog 34 (i_synced.s.ctr (fun x => i_synced.f k x.1 x.2.1 x.2.2)) := sig_ok i_synced.s (.cons (i_crashed.ok k) (.cons (i_heldIn.ok k) .nil)) (by kernel_rfl) fun _ => opq_eq _
theorem i_synced.f_eq (k : Nat) (d_Plate : List ByteArray) (d_Held : List ByteArray) (d_Bad : List Bool) : i_synced.f k d_Plate d_Held d_Bad =
 (i_heldIn.f k d_Plate d_Held d_Bad).bind fun d0 =>
 (i_crashed.f k d_Plate d_Held d_Bad d0).bind fun d1 =>
 some ((d1.fst, d1.snd.fst, d1.snd.snd)) := (opq_eq _).trans (by kernel_rfl)
abbrev i_NewScrub.s : Sig := ⟨9, [], [.val], [.one (.row 9 .str)], [.agg [.own 9 .str, .own 9 .str, .own 4 .bool, .own 3 (.int .i64), .int .i64, .int .i64], .one .bool], [], [(0, [(2,false),(4,false),(6,true),(24,true),(25,false),(26,false)])]⟩
noncomputable def i_NewScrub.C (k : Nat) : List (Nat × Ctr) := [(30, i_within.s.ctr (fun x => i_within.f k x.1 x.2.1 x.2.2)), (31, i_NewDisk.s.ctr (fun x => i_NewDisk.f k x)), (32, i_WriteStripe.s.ctr (fun x => i_WriteStripe.f k x.1.1 x.1.2.1 x.1.2.2 x.2.1 x.2.2.1 x.2.2.2)), (33, i_firstOf.s.ctr (fun x => i_firstOf.f k x)), (34, i_synced.s.ctr (fun x => i_synced.f k x.1 x.2.1 x.2.2))]
noncomputable def i_NewScrub.f (k : Nat) (texts : List ByteArray) : Option ((List ByteArray × List ByteArray × List Bool × List Int × Int × Int) × Bool) := opq (i_NewScrub.s.run Try.prog (i_NewScrub.C k) k texts)
theorem i_NewScrub.ok (k : Nat) : CtrOk Try.prog 9 (i_NewScrub.s.ctr (fun x => i_NewScrub.f k x)) := sig_ok i_NewScrub.s (.cons (i_within.ok k) (.cons (i_NewDisk.ok k) (.cons (i_WriteStripe.ok k) (.cons (i_firstOf.ok k) (.cons (i_synced.ok k) .nil))))) (by kernel_rfl) fun _ => opq_eq _
noncomputable def i_NewScrub.l0 (k : Nat) (m : Nat) (t24 : List ByteArray) (t25 : Int) (t26 : Int) (h1 : Int) (h1_ : Int) (h2 : List ByteArray) (h3 : List ByteArray) (h4 : List Bool) (h6 : List ByteArray) (h7 : List ByteArray) (h8 : List Bool) (h9 : List Int) (h10 : Int) (h10_ : Int) : Option ((List ByteArray × List ByteArray × List Bool × List Int × Int × Int) × Bool) := i_NewScrub.s.head Try.prog (i_NewScrub.C k) k 1 0 [] m [(2, AV.ptr 1 0 0), (4, AV.ptr 5 0 0), (6, AV.ptr 10 0 0), (24, AV.row 9 Kind.str t24), (25, AV.int IntKind.i64 t25), (26, AV.int IntKind.i64 t26)] [Root.dead, Root.box 29 [AV.nil 9 Kind.str, AV.nil 9 Kind.str, AV.nil 4 Kind.bool, AV.nil 3 (Kind.int IntKind.i64), AV.int IntKind.i64 h1, AV.int IntKind.i64 h1_], Root.rows 9 Kind.str h2, Root.rows 9 Kind.str h3, Root.rows 4 Kind.bool h4, Root.box 26 [AV.ref 2, AV.ref 3, AV.ref 4], Root.rows 9 Kind.str h6, Root.rows 9 Kind.str h7, Root.rows 4 Kind.bool h8, Root.rows 3 (Kind.int IntKind.i64) h9, Root.box 29 [AV.ref 6, AV.ref 7, AV.ref 8, AV.ref 9, AV.int IntKind.i64 h10, AV.int IntKind.i64 h10_]]
theorem i_NewScrub.l0_z (k : Nat) (t24 : List ByteArray) (t25 : Int) (t26 : Int) (h1 : Int) (h1_ : Int) (h2 : List ByteArray) (h3 : List ByteArray) (h4 : List Bool) (h6 : List ByteArray) (h7 : List ByteArray) (h8 : List Bool) (h9 : List Int) (h10 : Int) (h10_ : Int) : i_NewScrub.l0 k 0 t24 t25 t26 h1 h1_ h2 h3 h4 h6 h7 h8 h9 h10 h10_ = none := by kernel_rfl
theorem i_NewScrub.l0_s (k : Nat) (m : Nat) (t24 : List ByteArray) (t25 : Int) (t26 : Int) (h1 : Int) (h1_ : Int) (h2 : List ByteArray) (h3 : List ByteArray) (h4 : List Bool) (h6 : List ByteArray) (h7 : List ByteArray) (h8 : List Bool) (h9 : List Int) (h10 : Int) (h10_ : Int) : i_NewScrub.l0 k (m + 1) t24 t25 t26 h1 h1_ h2 h3 h4 h6 h7 h8 h9 h10 h10_ =
 cn (decide (t26 < t25))
 (gd (inb t26 t24.length)
  (both
   ((i_firstOf.f k t26).bind fun d1 =>
    dup
    ((i_WriteStripe.f k h2 h3 h4 d1 (1 : Int) (getAt ByteArray.empty t24 t26.toNat)).bind fun d2 =>
     cn (!d2.snd)
     (some ((([], [], [], [], (0 : Int), (0 : Int)), false)))
     (gd (appOk (h9.length + (1 : Nat)) (Try.prog.bytesOf (3 : Nat)))
      (i_NewScrub.l0 k m t24 t25 (IntKind.i64.wrap (t26 + (1 : Int))) h1 h1_ d2.fst.fst d2.fst.snd.fst d2.fst.snd.snd h6 h7 h8 (h9 ++ [(1 : Int)]) h10 h10_))))
   ((i_firstOf.f k t26).bind fun d1 =>
    (i_WriteStripe.f k h2 h3 h4 d1 (1 : Int) (getAt ByteArray.empty t24 t26.toNat)).bind fun d2 =>
    cn (!d2.snd)
    (some ((([], [], [], [], (0 : Int), (0 : Int)), false)))
    (gd (appOk (h9.length + (1 : Nat)) (Try.prog.bytesOf (3 : Nat)))
     (i_NewScrub.l0 k m t24 t25 (IntKind.i64.wrap (t26 + (1 : Int))) h1 h1_ d2.fst.fst d2.fst.snd.fst d2.fst.snd.snd h6 h7 h8 (h9 ++ [(1 : Int)]) h10 h10_)))))
 ((i_synced.f k h2 h3 h4).bind fun d1 =>
  some (((d1.fst, d1.snd.fst, d1.snd.snd, h9, h10, h10_), true))) := by kernel_rfl
theorem i_NewScrub.f_eq (k : Nat) (texts : List ByteArray) : i_NewScrub.f k texts =
 (i_within.f k (↑texts.length : Int) (1 : Int) (4 : Int)).bind fun d0 =>
 cn (!d0)
 (some ((([], [], [], [], (0 : Int), (0 : Int)), false)))
 ((i_NewDisk.f k (IntKind.i64.wrap ((5 : Int) * (↑texts.length : Int)))).bind fun d1 =>
  i_NewScrub.l0 k k texts ((↑texts.length : Int)) ((0 : Int)) ((0 : Int)) ((0 : Int)) d1.fst.fst d1.fst.snd.fst d1.fst.snd.snd ([]) ([]) ([]) ([]) ((0 : Int)) ((0 : Int))) := (opq_eq _).trans (by kernel_rfl)
abbrev i_NewStore.s : Sig := ⟨16, [], [.val], [.one (.int .i64)], [.agg [.own 9 .str, .own 9 .str, .own 4 .bool, .own 3 (.int .i64), .int .i64, .int .i64, .own 27 (.sl 3 (.int .i64)), .own 3 (.int .i64)], .one .bool], [], []⟩
noncomputable def i_NewStore.C (k : Nat) : List (Nat × Ctr) := [(30, i_within.s.ctr (fun x => i_within.f k x.1 x.2.1 x.2.2)), (9, i_NewScrub.s.ctr (fun x => i_NewScrub.f k x))]
noncomputable def i_NewStore.f (k : Nat) (stripes : Int) : Option ((List ByteArray × List ByteArray × List Bool × List Int × Int × Int × List (List Int) × List Int) × Bool) := opq (i_NewStore.s.run Try.prog (i_NewStore.C k) k stripes)
theorem i_NewStore.ok (k : Nat) : CtrOk Try.prog 16 (i_NewStore.s.ctr (fun x => i_NewStore.f k x)) := sig_ok i_NewStore.s (.cons (i_within.ok k) (.cons (i_NewScrub.ok k) .nil)) (by kernel_rfl) fun _ => opq_eq _
theorem i_NewStore.f_eq (k : Nat) (stripes : Int) : i_NewStore.f k stripes =
 (i_within.f k stripes (1 : Int) (4 : Int)).bind fun d0 =>
 cn (!d0)
 (some ((([], [], [], [], (0 : Int), (0 : Int), [], []), false)))
 (gd (mkOk stripes stripes (Try.prog.bytesOf (9 : Nat)))
  ((i_NewScrub.f k (List.replicate stripes.toNat ByteArray.empty)).bind fun d1 =>
   some (((d1.fst.fst, d1.fst.snd.fst, d1.fst.snd.snd.fst, d1.fst.snd.snd.snd.fst, d1.fst.snd.snd.snd.snd.fst, d1.fst.snd.snd.snd.snd.snd, [List.replicate (5 : Nat) (0 : Int)], []), true)))) := (opq_eq _).trans (by kernel_rfl)
abbrev w_eqStringS.s : Sig := ⟨11, [], [.val, .val], [.one (.row 9 .str), .one (.row 9 .str)], [.one .bool], [], [(0, [(0,false),(1,false),(5,false)])]⟩
noncomputable def w_eqStringS.C (k : Nat) : List (Nat × Ctr) := []
noncomputable def w_eqStringS.f (k : Nat) (a : List ByteArray) (b : List ByteArray) : Option Bool := opq (w_eqStringS.s.run Try.prog (w_eqStringS.C k) k (a, b))
theorem w_eqStringS.ok (k : Nat) : CtrOk Try.prog 11 (w_eqStringS.s.ctr (fun x => w_eqStringS.f k x.1 x.2)) := sig_ok w_eqStringS.s .nil (by kernel_rfl) fun _ => opq_eq _
noncomputable def w_eqStringS.l0 (k : Nat) (m : Nat) (a0 : List ByteArray) (b1 : List ByteArray) (i5 : Int) : Option Bool := w_eqStringS.s.head Try.prog (w_eqStringS.C k) k 1 0 [] m [(0, AV.row 9 Kind.str a0), (1, AV.row 9 Kind.str b1), (5, AV.int IntKind.i64 i5)] [Root.dead]
theorem w_eqStringS.l0_z (k : Nat) (a0 : List ByteArray) (b1 : List ByteArray) (i5 : Int) : w_eqStringS.l0 k 0 a0 b1 i5 = none := by kernel_rfl
theorem w_eqStringS.l0_s (k : Nat) (m : Nat) (a0 : List ByteArray) (b1 : List ByteArray) (i5 : Int) : w_eqStringS.l0 k (m + 1) a0 b1 i5 =
 cn (decide (i5 < (↑a0.length : Int)))
 (gd (inb i5 a0.length)
  (gd (inb i5 b1.length)
   (cn (!decide ((getAt ByteArray.empty a0 i5.toNat).toList = (getAt ByteArray.empty b1 i5.toNat).toList))
    (some false)
    (w_eqStringS.l0 k m a0 b1 (IntKind.i64.wrap (i5 + (1 : Int)))))))
 (some true) := by kernel_rfl
theorem w_eqStringS.f_eq (k : Nat) (a : List ByteArray) (b : List ByteArray) : w_eqStringS.f k a b =
 cn (!decide ((↑a.length : Int) = (↑b.length : Int)))
 (some false)
 (w_eqStringS.l0 k k a b ((0 : Int))) := (opq_eq _).trans (by kernel_rfl)
abbrev w_eqBoolS.s : Sig := ⟨64, [], [.val, .val], [.one (.row 4 .bool), .one (.row 4 .bool)], [.one .bool], [], [(0, [(0,false),(1,false),(5,false)])]⟩
noncomputable def w_eqBoolS.C (k : Nat) : List (Nat × Ctr) := []
noncomputable def w_eqBoolS.f (k : Nat) (a : List Bool) (b : List Bool) : Option Bool := opq (w_eqBoolS.s.run Try.prog (w_eqBoolS.C k) k (a, b))
theorem w_eqBoolS.ok (k : Nat) : CtrOk Try.prog 64 (w_eqBoolS.s.ctr (fun x => w_eqBoolS.f k x.1 x.2)) := sig_ok w_eqBoolS.s .nil (by kernel_rfl) fun _ => opq_eq _
noncomputable def w_eqBoolS.l0 (k : Nat) (m : Nat) (a0 : List Bool) (b1 : List Bool) (i5 : Int) : Option Bool := w_eqBoolS.s.head Try.prog (w_eqBoolS.C k) k 1 0 [] m [(0, AV.row 4 Kind.bool a0), (1, AV.row 4 Kind.bool b1), (5, AV.int IntKind.i64 i5)] [Root.dead]
theorem w_eqBoolS.l0_z (k : Nat) (a0 : List Bool) (b1 : List Bool) (i5 : Int) : w_eqBoolS.l0 k 0 a0 b1 i5 = none := by kernel_rfl
theorem w_eqBoolS.l0_s (k : Nat) (m : Nat) (a0 : List Bool) (b1 : List Bool) (i5 : Int) : w_eqBoolS.l0 k (m + 1) a0 b1 i5 =
 cn (decide (i5 < (↑a0.length : Int)))
 (gd (inb i5 a0.length)
  (gd (inb i5 b1.length)
   (cn (!getAt false a0 i5.toNat == getAt false b1 i5.toNat)
    (some false)
    (w_eqBoolS.l0 k m a0 b1 (IntKind.i64.wrap (i5 + (1 : Int)))))))
 (some true) := by kernel_rfl
theorem w_eqBoolS.f_eq (k : Nat) (a : List Bool) (b : List Bool) : w_eqBoolS.f k a b =
 cn (!decide ((↑a.length : Int) = (↑b.length : Int)))
 (some false)
 (w_eqBoolS.l0 k k a b ((0 : Int))) := (opq_eq _).trans (by kernel_rfl)
abbrev w_eqDisk.s : Sig := ⟨35, [], [.val, .val], [.agg [.row 9 .str, .row 9 .str, .row 4 .bool], .agg [.row 9 .str, .row 9 .str, .row 4 .bool]], [.one .bool], [], []⟩
noncomputable def w_eqDisk.C (k : Nat) : List (Nat × Ctr) := [(11, w_eqStringS.s.ctr (fun x => w_eqStringS.f k x.1 x.2)), (64, w_eqBoolS.s.ctr (fun x => w_eqBoolS.f k x.1 x.2))]
noncomputable def w_eqDisk.f (k : Nat) (a_Plate : List ByteArray) (a_Held : List ByteArray) (a_Bad : List Bool) (b_Plate : List ByteArray) (b_Held : List ByteArray) (b_Bad : List Bool) : Option Bool := opq (w_eqDisk.s.run Try.prog (w_eqDisk.C k) k ((a_Plate, a_Held, a_Bad), (b_Plate, b_Held, b_Bad)))
theorem w_eqDisk.ok (k : Nat) : CtrOk Try.prog 35 (w_eqDisk.s.ctr (fun x => w_eqDisk.f k x.1.1 x.1.2.1 x.1.2.2 x.2.1 x.2.2.1 x.2.2.2)) := sig_ok w_eqDisk.s (.cons (w_eqStringS.ok k) (.cons (w_eqBoolS.ok k) .nil)) (by kernel_rfl) fun _ => opq_eq _
theorem w_eqDisk.f_eq (k : Nat) (a_Plate : List ByteArray) (a_Held : List ByteArray) (a_Bad : List Bool) (b_Plate : List ByteArray) (b_Held : List ByteArray) (b_Bad : List Bool) : w_eqDisk.f k a_Plate a_Held a_Bad b_Plate b_Held b_Bad =
 (w_eqStringS.f k a_Plate b_Plate).bind fun d0 =>
 cn (!d0)
 (some false)
 ((w_eqStringS.f k a_Held b_Held).bind fun d1 =>
  cn (!d1)
  (some false)
  ((w_eqBoolS.f k a_Bad b_Bad).bind fun d2 =>
   cn (!d2)
   (some false)
   (some true))) := (opq_eq _).trans (by kernel_rfl)
abbrev w_eqIntS.s : Sig := ⟨36, [], [.val, .val], [.one (.row 3 (.int .i64)), .one (.row 3 (.int .i64))], [.one .bool], [], [(0, [(0,false),(1,false),(5,false)])]⟩
noncomputable def w_eqIntS.C (k : Nat) : List (Nat × Ctr) := []
noncomputable def w_eqIntS.f (k : Nat) (a : List Int) (b : List Int) : Option Bool := opq (w_eqIntS.s.run Try.prog (w_eqIntS.C k) k (a, b))
theorem w_eqIntS.ok (k : Nat) : CtrOk Try.prog 36 (w_eqIntS.s.ctr (fun x => w_eqIntS.f k x.1 x.2)) := sig_ok w_eqIntS.s .nil (by kernel_rfl) fun _ => opq_eq _
noncomputable def w_eqIntS.l0 (k : Nat) (m : Nat) (a0 : List Int) (b1 : List Int) (i5 : Int) : Option Bool := w_eqIntS.s.head Try.prog (w_eqIntS.C k) k 1 0 [] m [(0, AV.row 3 (Kind.int IntKind.i64) a0), (1, AV.row 3 (Kind.int IntKind.i64) b1), (5, AV.int IntKind.i64 i5)] [Root.dead]
theorem w_eqIntS.l0_z (k : Nat) (a0 : List Int) (b1 : List Int) (i5 : Int) : w_eqIntS.l0 k 0 a0 b1 i5 = none := by kernel_rfl
theorem w_eqIntS.l0_s (k : Nat) (m : Nat) (a0 : List Int) (b1 : List Int) (i5 : Int) : w_eqIntS.l0 k (m + 1) a0 b1 i5 =
 cn (decide (i5 < (↑a0.length : Int)))
 (gd (inb i5 a0.length)
  (gd (inb i5 b1.length)
   (cn (!decide (getAt (0 : Int) a0 i5.toNat = getAt (0 : Int) b1 i5.toNat))
    (some false)
    (w_eqIntS.l0 k m a0 b1 (IntKind.i64.wrap (i5 + (1 : Int)))))))
 (some true) := by kernel_rfl
theorem w_eqIntS.f_eq (k : Nat) (a : List Int) (b : List Int) : w_eqIntS.f k a b =
 cn (!decide ((↑a.length : Int) = (↑b.length : Int)))
 (some false)
 (w_eqIntS.l0 k k a b ((0 : Int))) := (opq_eq _).trans (by kernel_rfl)
abbrev w_eqScrub.s : Sig := ⟨10, [], [.val, .val], [.agg [.row 9 .str, .row 9 .str, .row 4 .bool, .row 3 (.int .i64), .int .i64, .int .i64], .agg [.row 9 .str, .row 9 .str, .row 4 .bool, .row 3 (.int .i64), .int .i64, .int .i64]], [.one .bool], [], []⟩
noncomputable def w_eqScrub.C (k : Nat) : List (Nat × Ctr) := [(35, w_eqDisk.s.ctr (fun x => w_eqDisk.f k x.1.1 x.1.2.1 x.1.2.2 x.2.1 x.2.2.1 x.2.2.2)), (36, w_eqIntS.s.ctr (fun x => w_eqIntS.f k x.1 x.2))]
noncomputable def w_eqScrub.f (k : Nat) (a_Disk_Plate : List ByteArray) (a_Disk_Held : List ByteArray) (a_Disk_Bad : List Bool) (a_Epochs : List Int) (a_Cursor : Int) (a_Mended : Int) (b_Disk_Plate : List ByteArray) (b_Disk_Held : List ByteArray) (b_Disk_Bad : List Bool) (b_Epochs : List Int) (b_Cursor : Int) (b_Mended : Int) : Option Bool := opq (w_eqScrub.s.run Try.prog (w_eqScrub.C k) k ((a_Disk_Plate, a_Disk_Held, a_Disk_Bad, a_Epochs, a_Cursor, a_Mended), (b_Disk_Plate, b_Disk_Held, b_Disk_Bad, b_Epochs, b_Cursor, b_Mended)))
theorem w_eqScrub.ok (k : Nat) : CtrOk Try.prog 10 (w_eqScrub.s.ctr (fun x => w_eqScrub.f k x.1.1 x.1.2.1 x.1.2.2.1 x.1.2.2.2.1 x.1.2.2.2.2.1 x.1.2.2.2.2.2 x.2.1 x.2.2.1 x.2.2.2.1 x.2.2.2.2.1 x.2.2.2.2.2.1 x.2.2.2.2.2.2)) := sig_ok w_eqScrub.s (.cons (w_eqDisk.ok k) (.cons (w_eqIntS.ok k) .nil)) (by kernel_rfl) fun _ => opq_eq _
theorem w_eqScrub.f_eq (k : Nat) (a_Disk_Plate : List ByteArray) (a_Disk_Held : List ByteArray) (a_Disk_Bad : List Bool) (a_Epochs : List Int) (a_Cursor : Int) (a_Mended : Int) (b_Disk_Plate : List ByteArray) (b_Disk_Held : List ByteArray) (b_Disk_Bad : List Bool) (b_Epochs : List Int) (b_Cursor : Int) (b_Mended : Int) : w_eqScrub.f k a_Disk_Plate a_Disk_Held a_Disk_Bad a_Epochs a_Cursor a_Mended b_Disk_Plate b_Disk_Held b_Disk_Bad b_Epochs b_Cursor b_Mended =
 (w_eqDisk.f k a_Disk_Plate a_Disk_Held a_Disk_Bad b_Disk_Plate b_Disk_Held b_Disk_Bad).bind fun d0 =>
 cn (!d0)
 (some false)
 ((w_eqIntS.f k a_Epochs b_Epochs).bind fun d1 =>
  cn (!d1)
  (some false)
  (cn (!decide (a_Cursor = b_Cursor))
   (some false)
   (cn (!decide (a_Mended = b_Mended))
    (some false)
    (some true)))) := (opq_eq _).trans (by kernel_rfl)
abbrev w_eqIntSS.s : Sig := ⟨42, [], [.val, .val], [.one (.row 27 (.sl 3 (.int .i64))), .one (.row 27 (.sl 3 (.int .i64)))], [.one .bool], [], [(0, [(0,false),(1,false),(5,false)])]⟩
noncomputable def w_eqIntSS.C (k : Nat) : List (Nat × Ctr) := [(36, w_eqIntS.s.ctr (fun x => w_eqIntS.f k x.1 x.2))]
noncomputable def w_eqIntSS.f (k : Nat) (a : List (List Int)) (b : List (List Int)) : Option Bool := opq (w_eqIntSS.s.run Try.prog (w_eqIntSS.C k) k (a, b))
theorem w_eqIntSS.ok (k : Nat) : CtrOk Try.prog 42 (w_eqIntSS.s.ctr (fun x => w_eqIntSS.f k x.1 x.2)) := sig_ok w_eqIntSS.s (.cons (w_eqIntS.ok k) .nil) (by kernel_rfl) fun _ => opq_eq _
noncomputable def w_eqIntSS.l0 (k : Nat) (m : Nat) (a0 : List (List Int)) (b1 : List (List Int)) (i5 : Int) : Option Bool := w_eqIntSS.s.head Try.prog (w_eqIntSS.C k) k 1 0 [] m [(0, AV.row 27 (Kind.sl 3 (Kind.int IntKind.i64)) a0), (1, AV.row 27 (Kind.sl 3 (Kind.int IntKind.i64)) b1), (5, AV.int IntKind.i64 i5)] [Root.dead]
theorem w_eqIntSS.l0_z (k : Nat) (a0 : List (List Int)) (b1 : List (List Int)) (i5 : Int) : w_eqIntSS.l0 k 0 a0 b1 i5 = none := by kernel_rfl
theorem w_eqIntSS.l0_s (k : Nat) (m : Nat) (a0 : List (List Int)) (b1 : List (List Int)) (i5 : Int) : w_eqIntSS.l0 k (m + 1) a0 b1 i5 =
 cn (decide (i5 < (↑a0.length : Int)))
 (gd (inb i5 a0.length)
  (gd (inb i5 b1.length)
   ((w_eqIntS.f k (getAt [] a0 i5.toNat) (getAt [] b1 i5.toNat)).bind fun d0 =>
    cn (!d0)
    (some false)
    (w_eqIntSS.l0 k m a0 b1 (IntKind.i64.wrap (i5 + (1 : Int)))))))
 (some true) := by kernel_rfl
theorem w_eqIntSS.f_eq (k : Nat) (a : List (List Int)) (b : List (List Int)) : w_eqIntSS.f k a b =
 cn (!decide ((↑a.length : Int) = (↑b.length : Int)))
 (some false)
 (w_eqIntSS.l0 k k a b ((0 : Int))) := (opq_eq _).trans (by kernel_rfl)
abbrev w_eqStore.s : Sig := ⟨17, [], [.val, .val], [.agg [.row 9 .str, .row 9 .str, .row 4 .bool, .row 3 (.int .i64), .int .i64, .int .i64, .row 27 (.sl 3 (.int .i64)), .row 3 (.int .i64)], .agg [.row 9 .str, .row 9 .str, .row 4 .bool, .row 3 (.int .i64), .int .i64, .int .i64, .row 27 (.sl 3 (.int .i64)), .row 3 (.int .i64)]], [.one .bool], [], []⟩
noncomputable def w_eqStore.C (k : Nat) : List (Nat × Ctr) := [(10, w_eqScrub.s.ctr (fun x => w_eqScrub.f k x.1.1 x.1.2.1 x.1.2.2.1 x.1.2.2.2.1 x.1.2.2.2.2.1 x.1.2.2.2.2.2 x.2.1 x.2.2.1 x.2.2.2.1 x.2.2.2.2.1 x.2.2.2.2.2.1 x.2.2.2.2.2.2)), (36, w_eqIntS.s.ctr (fun x => w_eqIntS.f k x.1 x.2)), (42, w_eqIntSS.s.ctr (fun x => w_eqIntSS.f k x.1 x.2))]
noncomputable def w_eqStore.f (k : Nat) (a_Scrub_Disk_Plate : List ByteArray) (a_Scrub_Disk_Held : List ByteArray) (a_Scrub_Disk_Bad : List Bool) (a_Scrub_Epochs : List Int) (a_Scrub_Cursor : Int) (a_Scrub_Mended : Int) (a_Volumes : List (List Int)) (a_Hurt : List Int) (b_Scrub_Disk_Plate : List ByteArray) (b_Scrub_Disk_Held : List ByteArray) (b_Scrub_Disk_Bad : List Bool) (b_Scrub_Epochs : List Int) (b_Scrub_Cursor : Int) (b_Scrub_Mended : Int) (b_Volumes : List (List Int)) (b_Hurt : List Int) : Option Bool := opq (w_eqStore.s.run Try.prog (w_eqStore.C k) k ((a_Scrub_Disk_Plate, a_Scrub_Disk_Held, a_Scrub_Disk_Bad, a_Scrub_Epochs, a_Scrub_Cursor, a_Scrub_Mended, a_Volumes, a_Hurt), (b_Scrub_Disk_Plate, b_Scrub_Disk_Held, b_Scrub_Disk_Bad, b_Scrub_Epochs, b_Scrub_Cursor, b_Scrub_Mended, b_Volumes, b_Hurt)))
theorem w_eqStore.ok (k : Nat) : CtrOk Try.prog 17 (w_eqStore.s.ctr (fun x => w_eqStore.f k x.1.1 x.1.2.1 x.1.2.2.1 x.1.2.2.2.1 x.1.2.2.2.2.1 x.1.2.2.2.2.2.1 x.1.2.2.2.2.2.2.1 x.1.2.2.2.2.2.2.2 x.2.1 x.2.2.1 x.2.2.2.1 x.2.2.2.2.1 x.2.2.2.2.2.1 x.2.2.2.2.2.2.1 x.2.2.2.2.2.2.2.1 x.2.2.2.2.2.2.2.2)) := sig_ok w_eqStore.s (.cons (w_eqScrub.ok k) (.cons (w_eqIntS.ok k) (.cons (w_eqIntSS.ok k) .nil))) (by kernel_rfl) fun _ => opq_eq _
theorem w_eqStore.f_eq (k : Nat) (a_Scrub_Disk_Plate : List ByteArray) (a_Scrub_Disk_Held : List ByteArray) (a_Scrub_Disk_Bad : List Bool) (a_Scrub_Epochs : List Int) (a_Scrub_Cursor : Int) (a_Scrub_Mended : Int) (a_Volumes : List (List Int)) (a_Hurt : List Int) (b_Scrub_Disk_Plate : List ByteArray) (b_Scrub_Disk_Held : List ByteArray) (b_Scrub_Disk_Bad : List Bool) (b_Scrub_Epochs : List Int) (b_Scrub_Cursor : Int) (b_Scrub_Mended : Int) (b_Volumes : List (List Int)) (b_Hurt : List Int) : w_eqStore.f k a_Scrub_Disk_Plate a_Scrub_Disk_Held a_Scrub_Disk_Bad a_Scrub_Epochs a_Scrub_Cursor a_Scrub_Mended a_Volumes a_Hurt b_Scrub_Disk_Plate b_Scrub_Disk_Held b_Scrub_Disk_Bad b_Scrub_Epochs b_Scrub_Cursor b_Scrub_Mended b_Volumes b_Hurt =
 (w_eqScrub.f k a_Scrub_Disk_Plate a_Scrub_Disk_Held a_Scrub_Disk_Bad a_Scrub_Epochs a_Scrub_Cursor a_Scrub_Mended b_Scrub_Disk_Plate b_Scrub_Disk_Held b_Scrub_Disk_Bad b_Scrub_Epochs b_Scrub_Cursor b_Scrub_Mended).bind fun d0 =>
 cn (!d0)
 (some false)
 ((w_eqIntSS.f k a_Volumes b_Volumes).bind fun d1 =>
  cn (!d1)
  (some false)
  ((w_eqIntS.f k a_Hurt b_Hurt).bind fun d2 =>
   cn (!d2)
   (some false)
   (some true))) := (opq_eq _).trans (by kernel_rfl)
abbrev w_markText.s : Sig := ⟨37, [], [.val], [.one (.int .i64)], [.one .str], [], [(0, [(0,false),(3,false)])]⟩
noncomputable def w_markText.C (k : Nat) : List (Nat × Ctr) := []
noncomputable def w_markText.f (k : Nat) (k_ : Int) : Option ByteArray := opq (w_markText.s.run Try.prog (w_markText.C k) k k_)
theorem w_markText.ok (k : Nat) : CtrOk Try.prog 37 (w_markText.s.ctr (fun x => w_markText.f k x)) := sig_ok w_markText.s .nil (by kernel_rfl) fun _ => opq_eq _
noncomputable def w_markText.l0 (k : Nat) (m : Nat) (k0 : Int) (out3 : ByteArray) : Option ByteArray := w_markText.s.head Try.prog (w_markText.C k) k 1 0 [] m [(0, AV.int IntKind.i64 k0), (3, AV.str out3)] [Root.dead]
theorem w_markText.l0_z (k : Nat) (k0 : Int) (out3 : ByteArray) : w_markText.l0 k 0 k0 out3 = none := by kernel_rfl
theorem w_markText.l0_s (k : Nat) (m : Nat) (k0 : Int) (out3 : ByteArray) : w_markText.l0 k (m + 1) k0 out3 =
 cn (decide ((0 : Int) < k0))
 (gd (decide ((strOfNums [IntKind.u8.wrap (IntKind.i64.wrap ((48 : Int) + k0.tmod (10 : Int)))]).size + out3.size ≤ (140737488355328 : Nat)))
  (w_markText.l0 k m (IntKind.i64.wrap (k0.tdiv (10 : Int))) (strOfNums [IntKind.u8.wrap (IntKind.i64.wrap ((48 : Int) + k0.tmod (10 : Int)))] ++ out3)))
 (gd (decide ((1 : Nat) + out3.size ≤ (140737488355328 : Nat)))
  (some ({ data := #[(109 : UInt8)] : ByteArray } ++ out3))) := by kernel_rfl
theorem w_markText.f_eq (k : Nat) (k_ : Int) : w_markText.f k k_ =
 cn (decide (k_ ≤ (0 : Int)))
 (some ({ data := #[(109 : UInt8), (48 : UInt8)] : ByteArray }))
 (w_markText.l0 k k k_ ByteArray.empty) := (opq_eq _).trans (by kernel_rfl)
abbrev w_markStringS.s : Sig := ⟨12, [], [.chg, .val], [.one (.row 9 .str), .one (.int .i64)], [.one (.int .i64)], [.rows 9 .str], [(0, [(0,false),(1,false),(5,false)])]⟩
noncomputable def w_markStringS.C (k : Nat) : List (Nat × Ctr) := [(37, w_markText.s.ctr (fun x => w_markText.f k x))]
noncomputable def w_markStringS.f (k : Nat) (a : List ByteArray) (k_ : Int) : Option (Int × List ByteArray) := opq (w_markStringS.s.run Try.prog (w_markStringS.C k) k (a, k_))
theorem w_markStringS.ok (k : Nat) : CtrOk Try.prog 12 (w_markStringS.s.ctr (fun x => w_markStringS.f k x.1 x.2)) := sig_ok w_markStringS.s (.cons (w_markText.ok k) .nil) (by kernel_rfl) fun _ => opq_eq _
noncomputable def w_markStringS.l0 (k : Nat) (m : Nat) (k1 : Int) (i5 : Int) (h1 : List ByteArray) : Option (Int × List ByteArray) := w_markStringS.s.head Try.prog (w_markStringS.C k) k 2 0 [] m [(0, AV.ref 1), (1, AV.int IntKind.i64 k1), (5, AV.int IntKind.i64 i5)] [Root.dead, Root.rows 9 Kind.str h1]
theorem w_markStringS.l0_z (k : Nat) (k1 : Int) (i5 : Int) (h1 : List ByteArray) : w_markStringS.l0 k 0 k1 i5 h1 = none := by kernel_rfl
theorem w_markStringS.l0_s (k : Nat) (m : Nat) (k1 : Int) (i5 : Int) (h1 : List ByteArray) : w_markStringS.l0 k (m + 1) k1 i5 h1 =
 cn (decide (i5 < (↑h1.length : Int)))
 ((w_markText.f k k1).bind fun d0 =>
  gd (inb i5 h1.length)
  (w_markStringS.l0 k m (IntKind.i64.wrap (k1 + (1 : Int))) (IntKind.i64.wrap (i5 + (1 : Int))) (h1.set i5.toNat d0)))
 (some ((k1, h1))) := by kernel_rfl
theorem w_markStringS.f_eq (k : Nat) (a : List ByteArray) (k_ : Int) : w_markStringS.f k a k_ =
 w_markStringS.l0 k k k_ ((0 : Int)) a := (opq_eq _).trans (by kernel_rfl)
abbrev w_markBoolS.s : Sig := ⟨65, [], [.chg, .val], [.one (.row 4 .bool), .one (.int .i64)], [.one (.int .i64)], [.rows 4 .bool], [(0, [(0,false),(1,false),(5,false)])]⟩
noncomputable def w_markBoolS.C (k : Nat) : List (Nat × Ctr) := []
noncomputable def w_markBoolS.f (k : Nat) (a : List Bool) (k_ : Int) : Option (Int × List Bool) := opq (w_markBoolS.s.run Try.prog (w_markBoolS.C k) k (a, k_))
theorem w_markBoolS.ok (k : Nat) : CtrOk Try.prog 65 (w_markBoolS.s.ctr (fun x => w_markBoolS.f k x.1 x.2)) := sig_ok w_markBoolS.s .nil (by kernel_rfl) fun _ => opq_eq _
noncomputable def w_markBoolS.l0 (k : Nat) (m : Nat) (k1 : Int) (i5 : Int) (h1 : List Bool) : Option (Int × List Bool) := w_markBoolS.s.head Try.prog (w_markBoolS.C k) k 2 0 [] m [(0, AV.ref 1), (1, AV.int IntKind.i64 k1), (5, AV.int IntKind.i64 i5)] [Root.dead, Root.rows 4 Kind.bool h1]
theorem w_markBoolS.l0_z (k : Nat) (k1 : Int) (i5 : Int) (h1 : List Bool) : w_markBoolS.l0 k 0 k1 i5 h1 = none := by kernel_rfl
theorem w_markBoolS.l0_s (k : Nat) (m : Nat) (k1 : Int) (i5 : Int) (h1 : List Bool) : w_markBoolS.l0 k (m + 1) k1 i5 h1 =
 cn (decide (i5 < (↑h1.length : Int)))
 (gd (inb i5 h1.length)
  (w_markBoolS.l0 k m (IntKind.i64.wrap (k1 + (1 : Int))) (IntKind.i64.wrap (i5 + (1 : Int))) (h1.set i5.toNat (decide (k1.tmod (3 : Int) = (0 : Int))))))
 (some ((k1, h1))) := by kernel_rfl
theorem w_markBoolS.f_eq (k : Nat) (a : List Bool) (k_ : Int) : w_markBoolS.f k a k_ =
 w_markBoolS.l0 k k k_ ((0 : Int)) a := (opq_eq _).trans (by kernel_rfl)
abbrev w_markDisk.s : Sig := ⟨38, [.agg 3, .one], [.chg, .chg, .chg, .val], [.one (.row 9 .str), .one (.row 9 .str), .one (.row 4 .bool), .one (.int .i64)], [.one (.int .i64)], [.rows 9 .str, .rows 9 .str, .rows 4 .bool], []⟩
noncomputable def w_markDisk.C (k : Nat) : List (Nat × Ctr) := [(12, w_markStringS.s.ctr (fun x => w_markStringS.f k x.1 x.2)), (65, w_markBoolS.s.ctr (fun x => w_markBoolS.f k x.1 x.2))]
noncomputable def w_markDisk.f (k : Nat) (a_Plate : List ByteArray) (a_Held : List ByteArray) (a_Bad : List Bool) (k_ : Int) : Option (Int × List ByteArray × List ByteArray × List Bool) := opq (w_markDisk.s.run Try.prog (w_markDisk.C k) k (a_Plate, a_Held, a_Bad, k_))
theorem w_markDisk.ok (k : Nat) : CtrOk Try.prog 38 (w_markDisk.s.ctr (fun x => w_markDisk.f k x.1 x.2.1 x.2.2.1 x.2.2.2)) := sig_ok w_markDisk.s (.cons (w_markStringS.ok k) (.cons (w_markBoolS.ok k) .nil)) (by kernel_rfl) fun _ => opq_eq _
theorem w_markDisk.f_eq (k : Nat) (a_Plate : List ByteArray) (a_Held : List ByteArray) (a_Bad : List Bool) (k_ : Int) : w_markDisk.f k a_Plate a_Held a_Bad k_ =
 (w_markStringS.f k a_Plate k_).bind fun d0 =>
 (w_markStringS.f k a_Held d0.fst).bind fun d1 =>
 (w_markBoolS.f k a_Bad d1.fst).bind fun d2 =>
 some ((d2.fst, d0.snd, d1.snd, d2.snd)) := (opq_eq _).trans (by kernel_rfl)
abbrev w_markIntS.s : Sig := ⟨39, [], [.chg, .val], [.one (.row 3 (.int .i64)), .one (.int .i64)], [.one (.int .i64)], [.rows 3 (.int .i64)], [(0, [(0,false),(1,false),(5,false)])]⟩
noncomputable def w_markIntS.C (k : Nat) : List (Nat × Ctr) := []
noncomputable def w_markIntS.f (k : Nat) (a : List Int) (k_ : Int) : Option (Int × List Int) := opq (w_markIntS.s.run Try.prog (w_markIntS.C k) k (a, k_))
theorem w_markIntS.ok (k : Nat) : CtrOk Try.prog 39 (w_markIntS.s.ctr (fun x => w_markIntS.f k x.1 x.2)) := sig_ok w_markIntS.s .nil (by kernel_rfl) fun _ => opq_eq _
noncomputable def w_markIntS.l0 (k : Nat) (m : Nat) (k1 : Int) (i5 : Int) (h1 : List Int) : Option (Int × List Int) := w_markIntS.s.head Try.prog (w_markIntS.C k) k 2 0 [] m [(0, AV.ref 1), (1, AV.int IntKind.i64 k1), (5, AV.int IntKind.i64 i5)] [Root.dead, Root.rows 3 (Kind.int IntKind.i64) h1]
theorem w_markIntS.l0_z (k : Nat) (k1 : Int) (i5 : Int) (h1 : List Int) : w_markIntS.l0 k 0 k1 i5 h1 = none := by kernel_rfl
theorem w_markIntS.l0_s (k : Nat) (m : Nat) (k1 : Int) (i5 : Int) (h1 : List Int) : w_markIntS.l0 k (m + 1) k1 i5 h1 =
 cn (decide (i5 < (↑h1.length : Int)))
 (gd (inb i5 h1.length)
  (w_markIntS.l0 k m (IntKind.i64.wrap (k1 + (1 : Int))) (IntKind.i64.wrap (i5 + (1 : Int))) (h1.set i5.toNat k1)))
 (some ((k1, h1))) := by kernel_rfl
theorem w_markIntS.f_eq (k : Nat) (a : List Int) (k_ : Int) : w_markIntS.f k a k_ =
 w_markIntS.l0 k k k_ ((0 : Int)) a := (opq_eq _).trans (by kernel_rfl)
abbrev w_markScrub.s : Sig := ⟨13, [.agg 6, .one], [.chg, .chg, .chg, .chg, .val, .val, .val], [.one (.row 9 .str), .one (.row 9 .str), .one (.row 4 .bool), .one (.row 3 (.int .i64)), .one (.int .i64), .one (.int .i64), .one (.int .i64)], [.one (.int .i64)], [.rows 9 .str, .rows 9 .str, .rows 4 .bool, .rows 3 (.int .i64)], []⟩
noncomputable def w_markScrub.C (k : Nat) : List (Nat × Ctr) := [(38, w_markDisk.s.ctr (fun x => w_markDisk.f k x.1 x.2.1 x.2.2.1 x.2.2.2)), (39, w_markIntS.s.ctr (fun x => w_markIntS.f k x.1 x.2))]
noncomputable def w_markScrub.f (k : Nat) (a_Disk_Plate : List ByteArray) (a_Disk_Held : List ByteArray) (a_Disk_Bad : List Bool) (a_Epochs : List Int) (a_Cursor : Int) (a_Mended : Int) (k_ : Int) : Option (Int × List ByteArray × List ByteArray × List Bool × List Int) := opq (w_markScrub.s.run Try.prog (w_markScrub.C k) k (a_Disk_Plate, a_Disk_Held, a_Disk_Bad, a_Epochs, a_Cursor, a_Mended, k_))
theorem w_markScrub.ok (k : Nat) : CtrOk Try.prog 13 (w_markScrub.s.ctr (fun x => w_markScrub.f k x.1 x.2.1 x.2.2.1 x.2.2.2.1 x.2.2.2.2.1 x.2.2.2.2.2.1 x.2.2.2.2.2.2)) := sig_ok w_markScrub.s (.cons (w_markDisk.ok k) (.cons (w_markIntS.ok k) .nil)) (by kernel_rfl) fun _ => opq_eq _
theorem w_markScrub.f_eq (k : Nat) (a_Disk_Plate : List ByteArray) (a_Disk_Held : List ByteArray) (a_Disk_Bad : List Bool) (a_Epochs : List Int) (a_Cursor : Int) (a_Mended : Int) (k_ : Int) : w_markScrub.f k a_Disk_Plate a_Disk_Held a_Disk_Bad a_Epochs a_Cursor a_Mended k_ =
 (w_markDisk.f k a_Disk_Plate a_Disk_Held a_Disk_Bad k_).bind fun d0 =>
 (w_markIntS.f k a_Epochs d0.fst).bind fun d1 =>
 some ((d1.fst, d0.snd.fst, d0.snd.snd.fst, d0.snd.snd.snd, d1.snd)) := (opq_eq _).trans (by kernel_rfl)
abbrev w_markIntSS.s : Sig := ⟨43, [], [.chg, .val], [.one (.row 27 (.sl 3 (.int .i64))), .one (.int .i64)], [.one (.int .i64)], [.rows 27 (.sl 3 (.int .i64))], [(0, [(0,false),(1,false),(5,false)])]⟩
noncomputable def w_markIntSS.C (k : Nat) : List (Nat × Ctr) := [(39, w_markIntS.s.ctr (fun x => w_markIntS.f k x.1 x.2))]
noncomputable def w_markIntSS.f (k : Nat) (a : List (List Int)) (k_ : Int) : Option (Int × List (List Int)) := opq (w_markIntSS.s.run Try.prog (w_markIntSS.C k) k (a, k_))
theorem w_markIntSS.ok (k : Nat) : CtrOk Try.prog 43 (w_markIntSS.s.ctr (fun x => w_markIntSS.f k x.1 x.2)) := sig_ok w_markIntSS.s (.cons (w_markIntS.ok k) .nil) (by kernel_rfl) fun _ => opq_eq _
noncomputable def w_markIntSS.l0 (k : Nat) (m : Nat) (k1 : Int) (i5 : Int) (h1 : List (List Int)) : Option (Int × List (List Int)) := w_markIntSS.s.head Try.prog (w_markIntSS.C k) k 2 0 [] m [(0, AV.ref 1), (1, AV.int IntKind.i64 k1), (5, AV.int IntKind.i64 i5)] [Root.dead, Root.rows 27 (Kind.sl 3 (Kind.int IntKind.i64)) h1]
theorem w_markIntSS.l0_z (k : Nat) (k1 : Int) (i5 : Int) (h1 : List (List Int)) : w_markIntSS.l0 k 0 k1 i5 h1 = none := by kernel_rfl
theorem w_markIntSS.l0_s (k : Nat) (m : Nat) (k1 : Int) (i5 : Int) (h1 : List (List Int)) : w_markIntSS.l0 k (m + 1) k1 i5 h1 =
 cn (decide (i5 < (↑h1.length : Int)))
 (gd (inb i5 h1.length)
  ((w_markIntS.f k (getAt [] h1 i5.toNat) k1).bind fun d0 =>
   w_markIntSS.l0 k m d0.fst (IntKind.i64.wrap (i5 + (1 : Int))) (h1.set i5.toNat d0.snd)))
 (some ((k1, h1))) := by kernel_rfl
theorem w_markIntSS.f_eq (k : Nat) (a : List (List Int)) (k_ : Int) : w_markIntSS.f k a k_ =
 w_markIntSS.l0 k k k_ ((0 : Int)) a := (opq_eq _).trans (by kernel_rfl)
abbrev w_markStore.s : Sig := ⟨18, [.agg 8, .one], [.chg, .chg, .chg, .chg, .val, .val, .chg, .chg, .val], [.one (.row 9 .str), .one (.row 9 .str), .one (.row 4 .bool), .one (.row 3 (.int .i64)), .one (.int .i64), .one (.int .i64), .one (.row 27 (.sl 3 (.int .i64))), .one (.row 3 (.int .i64)), .one (.int .i64)], [.one (.int .i64)], [.rows 9 .str, .rows 9 .str, .rows 4 .bool, .rows 3 (.int .i64), .rows 27 (.sl 3 (.int .i64)), .rows 3 (.int .i64)], []⟩
noncomputable def w_markStore.C (k : Nat) : List (Nat × Ctr) := [(13, w_markScrub.s.ctr (fun x => w_markScrub.f k x.1 x.2.1 x.2.2.1 x.2.2.2.1 x.2.2.2.2.1 x.2.2.2.2.2.1 x.2.2.2.2.2.2)), (39, w_markIntS.s.ctr (fun x => w_markIntS.f k x.1 x.2)), (43, w_markIntSS.s.ctr (fun x => w_markIntSS.f k x.1 x.2))]
noncomputable def w_markStore.f (k : Nat) (a_Scrub_Disk_Plate : List ByteArray) (a_Scrub_Disk_Held : List ByteArray) (a_Scrub_Disk_Bad : List Bool) (a_Scrub_Epochs : List Int) (a_Scrub_Cursor : Int) (a_Scrub_Mended : Int) (a_Volumes : List (List Int)) (a_Hurt : List Int) (k_ : Int) : Option (Int × List ByteArray × List ByteArray × List Bool × List Int × List (List Int) × List Int) := opq (w_markStore.s.run Try.prog (w_markStore.C k) k (a_Scrub_Disk_Plate, a_Scrub_Disk_Held, a_Scrub_Disk_Bad, a_Scrub_Epochs, a_Scrub_Cursor, a_Scrub_Mended, a_Volumes, a_Hurt, k_))
theorem w_markStore.ok (k : Nat) : CtrOk Try.prog 18 (w_markStore.s.ctr (fun x => w_markStore.f k x.1 x.2.1 x.2.2.1 x.2.2.2.1 x.2.2.2.2.1 x.2.2.2.2.2.1 x.2.2.2.2.2.2.1 x.2.2.2.2.2.2.2.1 x.2.2.2.2.2.2.2.2)) := sig_ok w_markStore.s (.cons (w_markScrub.ok k) (.cons (w_markIntS.ok k) (.cons (w_markIntSS.ok k) .nil))) (by kernel_rfl) fun _ => opq_eq _
theorem w_markStore.f_eq (k : Nat) (a_Scrub_Disk_Plate : List ByteArray) (a_Scrub_Disk_Held : List ByteArray) (a_Scrub_Disk_Bad : List Bool) (a_Scrub_Epochs : List Int) (a_Scrub_Cursor : Int) (a_Scrub_Mended : Int) (a_Volumes : List (List Int)) (a_Hurt : List Int) (k_ : Int) : w_markStore.f k a_Scrub_Disk_Plate a_Scrub_Disk_Held a_Scrub_Disk_Bad a_Scrub_Epochs a_Scrub_Cursor a_Scrub_Mended a_Volumes a_Hurt k_ =
 (w_markScrub.f k a_Scrub_Disk_Plate a_Scrub_Disk_Held a_Scrub_Disk_Bad a_Scrub_Epochs a_Scrub_Cursor a_Scrub_Mended k_).bind fun d0 =>
 (w_markIntSS.f k a_Volumes d0.fst).bind fun d1 =>
 (w_markIntS.f k a_Hurt d1.fst).bind fun d2 =>
 some ((d2.fst, d0.snd.fst, d0.snd.snd.fst, d0.snd.snd.snd.fst, d0.snd.snd.snd.snd, d1.snd, d2.snd)) := (opq_eq _).trans (by kernel_rfl)
abbrev w_heldStringS.s : Sig := ⟨66, [], [.val, .val], [.one (.row 9 .str), .one (.int .i64)], [.one (.int .i64)], [], [(0, [(0,false),(1,false),(5,false)])]⟩
noncomputable def w_heldStringS.C (k : Nat) : List (Nat × Ctr) := [(37, w_markText.s.ctr (fun x => w_markText.f k x))]
noncomputable def w_heldStringS.f (k : Nat) (a : List ByteArray) (k_ : Int) : Option Int := opq (w_heldStringS.s.run Try.prog (w_heldStringS.C k) k (a, k_))
theorem w_heldStringS.ok (k : Nat) : CtrOk Try.prog 66 (w_heldStringS.s.ctr (fun x => w_heldStringS.f k x.1 x.2)) := sig_ok w_heldStringS.s (.cons (w_markText.ok k) .nil) (by kernel_rfl) fun _ => opq_eq _
noncomputable def w_heldStringS.l0 (k : Nat) (m : Nat) (a0 : List ByteArray) (k1 : Int) (i5 : Int) : Option Int := w_heldStringS.s.head Try.prog (w_heldStringS.C k) k 1 0 [] m [(0, AV.row 9 Kind.str a0), (1, AV.int IntKind.i64 k1), (5, AV.int IntKind.i64 i5)] [Root.dead]
theorem w_heldStringS.l0_z (k : Nat) (a0 : List ByteArray) (k1 : Int) (i5 : Int) : w_heldStringS.l0 k 0 a0 k1 i5 = none := by kernel_rfl
theorem w_heldStringS.l0_s (k : Nat) (m : Nat) (a0 : List ByteArray) (k1 : Int) (i5 : Int) : w_heldStringS.l0 k (m + 1) a0 k1 i5 =
 cn (decide (i5 < (↑a0.length : Int)))
 (gd (inb i5 a0.length)
  ((w_markText.f k k1).bind fun d0 =>
   cn (!decide ((getAt ByteArray.empty a0 i5.toNat).toList = ByteArray.toList d0))
   (some ((-1 : Int)))
   (w_heldStringS.l0 k m a0 (IntKind.i64.wrap (k1 + (1 : Int))) (IntKind.i64.wrap (i5 + (1 : Int))))))
 (some k1) := by kernel_rfl
theorem w_heldStringS.f_eq (k : Nat) (a : List ByteArray) (k_ : Int) : w_heldStringS.f k a k_ =
 w_heldStringS.l0 k k a k_ ((0 : Int)) := (opq_eq _).trans (by kernel_rfl)
abbrev w_heldBoolS.s : Sig := ⟨67, [], [.val, .val], [.one (.row 4 .bool), .one (.int .i64)], [.one (.int .i64)], [], [(0, [(0,false),(1,false),(5,false)])]⟩
noncomputable def w_heldBoolS.C (k : Nat) : List (Nat × Ctr) := []
noncomputable def w_heldBoolS.f (k : Nat) (a : List Bool) (k_ : Int) : Option Int := opq (w_heldBoolS.s.run Try.prog (w_heldBoolS.C k) k (a, k_))
theorem w_heldBoolS.ok (k : Nat) : CtrOk Try.prog 67 (w_heldBoolS.s.ctr (fun x => w_heldBoolS.f k x.1 x.2)) := sig_ok w_heldBoolS.s .nil (by kernel_rfl) fun _ => opq_eq _
noncomputable def w_heldBoolS.l0 (k : Nat) (m : Nat) (a0 : List Bool) (k1 : Int) (i5 : Int) : Option Int := w_heldBoolS.s.head Try.prog (w_heldBoolS.C k) k 1 0 [] m [(0, AV.row 4 Kind.bool a0), (1, AV.int IntKind.i64 k1), (5, AV.int IntKind.i64 i5)] [Root.dead]
theorem w_heldBoolS.l0_z (k : Nat) (a0 : List Bool) (k1 : Int) (i5 : Int) : w_heldBoolS.l0 k 0 a0 k1 i5 = none := by kernel_rfl
theorem w_heldBoolS.l0_s (k : Nat) (m : Nat) (a0 : List Bool) (k1 : Int) (i5 : Int) : w_heldBoolS.l0 k (m + 1) a0 k1 i5 =
 cn (decide (i5 < (↑a0.length : Int)))
 (gd (inb i5 a0.length)
  (cn (!getAt false a0 i5.toNat == decide (k1.tmod (3 : Int) = (0 : Int)))
   (some ((-1 : Int)))
   (w_heldBoolS.l0 k m a0 (IntKind.i64.wrap (k1 + (1 : Int))) (IntKind.i64.wrap (i5 + (1 : Int))))))
 (some k1) := by kernel_rfl
theorem w_heldBoolS.f_eq (k : Nat) (a : List Bool) (k_ : Int) : w_heldBoolS.f k a k_ =
 w_heldBoolS.l0 k k a k_ ((0 : Int)) := (opq_eq _).trans (by kernel_rfl)
abbrev w_heldDisk.s : Sig := ⟨40, [], [.val, .val], [.agg [.row 9 .str, .row 9 .str, .row 4 .bool], .one (.int .i64)], [.one (.int .i64)], [], []⟩
noncomputable def w_heldDisk.C (k : Nat) : List (Nat × Ctr) := [(66, w_heldStringS.s.ctr (fun x => w_heldStringS.f k x.1 x.2)), (67, w_heldBoolS.s.ctr (fun x => w_heldBoolS.f k x.1 x.2))]
noncomputable def w_heldDisk.f (k : Nat) (a_Plate : List ByteArray) (a_Held : List ByteArray) (a_Bad : List Bool) (k_ : Int) : Option Int := opq (w_heldDisk.s.run Try.prog (w_heldDisk.C k) k ((a_Plate, a_Held, a_Bad), k_))
theorem w_heldDisk.ok (k : Nat) : CtrOk Try.prog 40 (w_heldDisk.s.ctr (fun x => w_heldDisk.f k x.1.1 x.1.2.1 x.1.2.2 x.2)) := sig_ok w_heldDisk.s (.cons (w_heldStringS.ok k) (.cons (w_heldBoolS.ok k) .nil)) (by kernel_rfl) fun _ => opq_eq _
theorem w_heldDisk.f_eq (k : Nat) (a_Plate : List ByteArray) (a_Held : List ByteArray) (a_Bad : List Bool) (k_ : Int) : w_heldDisk.f k a_Plate a_Held a_Bad k_ =
 (w_heldStringS.f k a_Plate k_).bind fun d0 =>
 cn (decide (d0 < (0 : Int)))
 (some ((-1 : Int)))
 ((w_heldStringS.f k a_Held d0).bind fun d1 =>
  cn (decide (d1 < (0 : Int)))
  (some ((-1 : Int)))
  ((w_heldBoolS.f k a_Bad d1).bind fun d2 =>
   cn (decide (d2 < (0 : Int)))
   (some ((-1 : Int)))
   (some d2))) := (opq_eq _).trans (by kernel_rfl)
abbrev w_heldIntS.s : Sig := ⟨41, [], [.val, .val], [.one (.row 3 (.int .i64)), .one (.int .i64)], [.one (.int .i64)], [], [(0, [(0,false),(1,false),(5,false)])]⟩
noncomputable def w_heldIntS.C (k : Nat) : List (Nat × Ctr) := []
noncomputable def w_heldIntS.f (k : Nat) (a : List Int) (k_ : Int) : Option Int := opq (w_heldIntS.s.run Try.prog (w_heldIntS.C k) k (a, k_))
theorem w_heldIntS.ok (k : Nat) : CtrOk Try.prog 41 (w_heldIntS.s.ctr (fun x => w_heldIntS.f k x.1 x.2)) := sig_ok w_heldIntS.s .nil (by kernel_rfl) fun _ => opq_eq _
noncomputable def w_heldIntS.l0 (k : Nat) (m : Nat) (a0 : List Int) (k1 : Int) (i5 : Int) : Option Int := w_heldIntS.s.head Try.prog (w_heldIntS.C k) k 1 0 [] m [(0, AV.row 3 (Kind.int IntKind.i64) a0), (1, AV.int IntKind.i64 k1), (5, AV.int IntKind.i64 i5)] [Root.dead]
theorem w_heldIntS.l0_z (k : Nat) (a0 : List Int) (k1 : Int) (i5 : Int) : w_heldIntS.l0 k 0 a0 k1 i5 = none := by kernel_rfl
theorem w_heldIntS.l0_s (k : Nat) (m : Nat) (a0 : List Int) (k1 : Int) (i5 : Int) : w_heldIntS.l0 k (m + 1) a0 k1 i5 =
 cn (decide (i5 < (↑a0.length : Int)))
 (gd (inb i5 a0.length)
  (cn (!decide (getAt (0 : Int) a0 i5.toNat = k1))
   (some ((-1 : Int)))
   (w_heldIntS.l0 k m a0 (IntKind.i64.wrap (k1 + (1 : Int))) (IntKind.i64.wrap (i5 + (1 : Int))))))
 (some k1) := by kernel_rfl
theorem w_heldIntS.f_eq (k : Nat) (a : List Int) (k_ : Int) : w_heldIntS.f k a k_ =
 w_heldIntS.l0 k k a k_ ((0 : Int)) := (opq_eq _).trans (by kernel_rfl)
abbrev w_heldScrub.s : Sig := ⟨14, [], [.val, .val], [.agg [.row 9 .str, .row 9 .str, .row 4 .bool, .row 3 (.int .i64), .int .i64, .int .i64], .one (.int .i64)], [.one (.int .i64)], [], []⟩
noncomputable def w_heldScrub.C (k : Nat) : List (Nat × Ctr) := [(40, w_heldDisk.s.ctr (fun x => w_heldDisk.f k x.1.1 x.1.2.1 x.1.2.2 x.2)), (41, w_heldIntS.s.ctr (fun x => w_heldIntS.f k x.1 x.2))]
noncomputable def w_heldScrub.f (k : Nat) (a_Disk_Plate : List ByteArray) (a_Disk_Held : List ByteArray) (a_Disk_Bad : List Bool) (a_Epochs : List Int) (a_Cursor : Int) (a_Mended : Int) (k_ : Int) : Option Int := opq (w_heldScrub.s.run Try.prog (w_heldScrub.C k) k ((a_Disk_Plate, a_Disk_Held, a_Disk_Bad, a_Epochs, a_Cursor, a_Mended), k_))
theorem w_heldScrub.ok (k : Nat) : CtrOk Try.prog 14 (w_heldScrub.s.ctr (fun x => w_heldScrub.f k x.1.1 x.1.2.1 x.1.2.2.1 x.1.2.2.2.1 x.1.2.2.2.2.1 x.1.2.2.2.2.2 x.2)) := sig_ok w_heldScrub.s (.cons (w_heldDisk.ok k) (.cons (w_heldIntS.ok k) .nil)) (by kernel_rfl) fun _ => opq_eq _
theorem w_heldScrub.f_eq (k : Nat) (a_Disk_Plate : List ByteArray) (a_Disk_Held : List ByteArray) (a_Disk_Bad : List Bool) (a_Epochs : List Int) (a_Cursor : Int) (a_Mended : Int) (k_ : Int) : w_heldScrub.f k a_Disk_Plate a_Disk_Held a_Disk_Bad a_Epochs a_Cursor a_Mended k_ =
 (w_heldDisk.f k a_Disk_Plate a_Disk_Held a_Disk_Bad k_).bind fun d0 =>
 cn (decide (d0 < (0 : Int)))
 (some ((-1 : Int)))
 ((w_heldIntS.f k a_Epochs d0).bind fun d1 =>
  cn (decide (d1 < (0 : Int)))
  (some ((-1 : Int)))
  (some d1)) := (opq_eq _).trans (by kernel_rfl)
abbrev w_heldIntSS.s : Sig := ⟨44, [], [.val, .val], [.one (.row 27 (.sl 3 (.int .i64))), .one (.int .i64)], [.one (.int .i64)], [], [(0, [(0,false),(1,false),(5,false)])]⟩
noncomputable def w_heldIntSS.C (k : Nat) : List (Nat × Ctr) := [(41, w_heldIntS.s.ctr (fun x => w_heldIntS.f k x.1 x.2))]
noncomputable def w_heldIntSS.f (k : Nat) (a : List (List Int)) (k_ : Int) : Option Int := opq (w_heldIntSS.s.run Try.prog (w_heldIntSS.C k) k (a, k_))
theorem w_heldIntSS.ok (k : Nat) : CtrOk Try.prog 44 (w_heldIntSS.s.ctr (fun x => w_heldIntSS.f k x.1 x.2)) := sig_ok w_heldIntSS.s (.cons (w_heldIntS.ok k) .nil) (by kernel_rfl) fun _ => opq_eq _
noncomputable def w_heldIntSS.l0 (k : Nat) (m : Nat) (a0 : List (List Int)) (k1 : Int) (i5 : Int) : Option Int := w_heldIntSS.s.head Try.prog (w_heldIntSS.C k) k 1 0 [] m [(0, AV.row 27 (Kind.sl 3 (Kind.int IntKind.i64)) a0), (1, AV.int IntKind.i64 k1), (5, AV.int IntKind.i64 i5)] [Root.dead]
theorem w_heldIntSS.l0_z (k : Nat) (a0 : List (List Int)) (k1 : Int) (i5 : Int) : w_heldIntSS.l0 k 0 a0 k1 i5 = none := by kernel_rfl
theorem w_heldIntSS.l0_s (k : Nat) (m : Nat) (a0 : List (List Int)) (k1 : Int) (i5 : Int) : w_heldIntSS.l0 k (m + 1) a0 k1 i5 =
 cn (decide (i5 < (↑a0.length : Int)))
 (gd (inb i5 a0.length)
  ((w_heldIntS.f k (getAt [] a0 i5.toNat) k1).bind fun d0 =>
   cn (decide (d0 < (0 : Int)))
   (some ((-1 : Int)))
   (w_heldIntSS.l0 k m a0 d0 (IntKind.i64.wrap (i5 + (1 : Int))))))
 (some k1) := by kernel_rfl
theorem w_heldIntSS.f_eq (k : Nat) (a : List (List Int)) (k_ : Int) : w_heldIntSS.f k a k_ =
 w_heldIntSS.l0 k k a k_ ((0 : Int)) := (opq_eq _).trans (by kernel_rfl)
abbrev w_heldStore.s : Sig := ⟨19, [], [.val, .val], [.agg [.row 9 .str, .row 9 .str, .row 4 .bool, .row 3 (.int .i64), .int .i64, .int .i64, .row 27 (.sl 3 (.int .i64)), .row 3 (.int .i64)], .one (.int .i64)], [.one (.int .i64)], [], []⟩
noncomputable def w_heldStore.C (k : Nat) : List (Nat × Ctr) := [(14, w_heldScrub.s.ctr (fun x => w_heldScrub.f k x.1.1 x.1.2.1 x.1.2.2.1 x.1.2.2.2.1 x.1.2.2.2.2.1 x.1.2.2.2.2.2 x.2)), (41, w_heldIntS.s.ctr (fun x => w_heldIntS.f k x.1 x.2)), (44, w_heldIntSS.s.ctr (fun x => w_heldIntSS.f k x.1 x.2))]
noncomputable def w_heldStore.f (k : Nat) (a_Scrub_Disk_Plate : List ByteArray) (a_Scrub_Disk_Held : List ByteArray) (a_Scrub_Disk_Bad : List Bool) (a_Scrub_Epochs : List Int) (a_Scrub_Cursor : Int) (a_Scrub_Mended : Int) (a_Volumes : List (List Int)) (a_Hurt : List Int) (k_ : Int) : Option Int := opq (w_heldStore.s.run Try.prog (w_heldStore.C k) k ((a_Scrub_Disk_Plate, a_Scrub_Disk_Held, a_Scrub_Disk_Bad, a_Scrub_Epochs, a_Scrub_Cursor, a_Scrub_Mended, a_Volumes, a_Hurt), k_))
theorem w_heldStore.ok (k : Nat) : CtrOk Try.prog 19 (w_heldStore.s.ctr (fun x => w_heldStore.f k x.1.1 x.1.2.1 x.1.2.2.1 x.1.2.2.2.1 x.1.2.2.2.2.1 x.1.2.2.2.2.2.1 x.1.2.2.2.2.2.2.1 x.1.2.2.2.2.2.2.2 x.2)) := sig_ok w_heldStore.s (.cons (w_heldScrub.ok k) (.cons (w_heldIntS.ok k) (.cons (w_heldIntSS.ok k) .nil))) (by kernel_rfl) fun _ => opq_eq _
theorem w_heldStore.f_eq (k : Nat) (a_Scrub_Disk_Plate : List ByteArray) (a_Scrub_Disk_Held : List ByteArray) (a_Scrub_Disk_Bad : List Bool) (a_Scrub_Epochs : List Int) (a_Scrub_Cursor : Int) (a_Scrub_Mended : Int) (a_Volumes : List (List Int)) (a_Hurt : List Int) (k_ : Int) : w_heldStore.f k a_Scrub_Disk_Plate a_Scrub_Disk_Held a_Scrub_Disk_Bad a_Scrub_Epochs a_Scrub_Cursor a_Scrub_Mended a_Volumes a_Hurt k_ =
 (w_heldScrub.f k a_Scrub_Disk_Plate a_Scrub_Disk_Held a_Scrub_Disk_Bad a_Scrub_Epochs a_Scrub_Cursor a_Scrub_Mended k_).bind fun d0 =>
 cn (decide (d0 < (0 : Int)))
 (some ((-1 : Int)))
 ((w_heldIntSS.f k a_Volumes d0).bind fun d1 =>
  cn (decide (d1 < (0 : Int)))
  (some ((-1 : Int)))
  ((w_heldIntS.f k a_Hurt d1).bind fun d2 =>
   cn (decide (d2 < (0 : Int)))
   (some ((-1 : Int)))
   (some d2))) := (opq_eq _).trans (by kernel_rfl)
abbrev w_FnExactNewStore.s : Sig := ⟨4, [], [.val], [.one (.int .i64)], [.one .bool], [], []⟩
noncomputable def w_FnExactNewStore.C (k : Nat) : List (Nat × Ctr) := [(15, s_NewStore.s.ctr (fun x => s_NewStore.f k x)), (16, i_NewStore.s.ctr (fun x => i_NewStore.f k x)), (17, w_eqStore.s.ctr (fun x => w_eqStore.f k x.1.1 x.1.2.1 x.1.2.2.1 x.1.2.2.2.1 x.1.2.2.2.2.1 x.1.2.2.2.2.2.1 x.1.2.2.2.2.2.2.1 x.1.2.2.2.2.2.2.2 x.2.1 x.2.2.1 x.2.2.2.1 x.2.2.2.2.1 x.2.2.2.2.2.1 x.2.2.2.2.2.2.1 x.2.2.2.2.2.2.2.1 x.2.2.2.2.2.2.2.2)), (18, w_markStore.s.ctr (fun x => w_markStore.f k x.1 x.2.1 x.2.2.1 x.2.2.2.1 x.2.2.2.2.1 x.2.2.2.2.2.1 x.2.2.2.2.2.2.1 x.2.2.2.2.2.2.2.1 x.2.2.2.2.2.2.2.2)), (19, w_heldStore.s.ctr (fun x => w_heldStore.f k x.1.1 x.1.2.1 x.1.2.2.1 x.1.2.2.2.1 x.1.2.2.2.2.1 x.1.2.2.2.2.2.1 x.1.2.2.2.2.2.2.1 x.1.2.2.2.2.2.2.2 x.2))]
noncomputable def w_FnExactNewStore.f (k : Nat) (aStripes : Int) : Option Bool := opq (w_FnExactNewStore.s.run Try.prog (w_FnExactNewStore.C k) k aStripes)
theorem w_FnExactNewStore.ok (k : Nat) : CtrOk Try.prog 4 (w_FnExactNewStore.s.ctr (fun x => w_FnExactNewStore.f k x)) := sig_ok w_FnExactNewStore.s (.cons (s_NewStore.ok k) (.cons (i_NewStore.ok k) (.cons (w_eqStore.ok k) (.cons (w_markStore.ok k) (.cons (w_heldStore.ok k) .nil))))) (by kernel_rfl) fun _ => opq_eq _
theorem w_FnExactNewStore.f_eq (k : Nat) (aStripes : Int) : w_FnExactNewStore.f k aStripes =
 (s_NewStore.f k aStripes).bind fun d0 =>
 (i_NewStore.f k aStripes).bind fun d1 =>
 (w_eqStore.f k d1.fst.fst d1.fst.snd.fst d1.fst.snd.snd.fst d1.fst.snd.snd.snd.fst d1.fst.snd.snd.snd.snd.fst d1.fst.snd.snd.snd.snd.snd.fst d1.fst.snd.snd.snd.snd.snd.snd.fst d1.fst.snd.snd.snd.snd.snd.snd.snd d0.fst.fst d0.fst.snd.fst d0.fst.snd.snd.fst d0.fst.snd.snd.snd.fst d0.fst.snd.snd.snd.snd.fst d0.fst.snd.snd.snd.snd.snd.fst d0.fst.snd.snd.snd.snd.snd.snd.fst d0.fst.snd.snd.snd.snd.snd.snd.snd).bind fun d2 =>
 cn (!d2)
 (some false)
 (cn (!d1.snd == d0.snd)
  (some false)
  ((w_markStore.f k d1.fst.fst d1.fst.snd.fst d1.fst.snd.snd.fst d1.fst.snd.snd.snd.fst d1.fst.snd.snd.snd.snd.fst d1.fst.snd.snd.snd.snd.snd.fst d1.fst.snd.snd.snd.snd.snd.snd.fst d1.fst.snd.snd.snd.snd.snd.snd.snd (1 : Int)).bind fun d3 =>
   (w_heldStore.f k d3.snd.fst d3.snd.snd.fst d3.snd.snd.snd.fst d3.snd.snd.snd.snd.fst d1.fst.snd.snd.snd.snd.fst d1.fst.snd.snd.snd.snd.snd.fst d3.snd.snd.snd.snd.snd.fst d3.snd.snd.snd.snd.snd.snd (1 : Int)).bind fun d4 =>
   cn (decide (d4 < (0 : Int)))
   (some false)
   (cn (!decide (d4 = d3.fst))
    (some false)
    ((i_NewStore.f k aStripes).bind fun d5 =>
     (w_eqStore.f k d5.fst.fst d5.fst.snd.fst d5.fst.snd.snd.fst d5.fst.snd.snd.snd.fst d5.fst.snd.snd.snd.snd.fst d5.fst.snd.snd.snd.snd.snd.fst d5.fst.snd.snd.snd.snd.snd.snd.fst d5.fst.snd.snd.snd.snd.snd.snd.snd d0.fst.fst d0.fst.snd.fst d0.fst.snd.snd.fst d0.fst.snd.snd.snd.fst d0.fst.snd.snd.snd.snd.fst d0.fst.snd.snd.snd.snd.snd.fst d0.fst.snd.snd.snd.snd.snd.snd.fst d0.fst.snd.snd.snd.snd.snd.snd.snd).bind fun d6 =>
     cn (!d6)
     (some false)
     (cn (!d5.snd == d0.snd)
      (some false)
      ((w_heldStore.f k d3.snd.fst d3.snd.snd.fst d3.snd.snd.snd.fst d3.snd.snd.snd.snd.fst d1.fst.snd.snd.snd.snd.fst d1.fst.snd.snd.snd.snd.snd.fst d3.snd.snd.snd.snd.snd.fst d3.snd.snd.snd.snd.snd.snd (1 : Int)).bind fun d7 =>
       cn (decide (d7 < (0 : Int)))
       (some false)
       (cn (!decide (d7 = d3.fst))
        (some false)
        (some true)))))))) := (opq_eq _).trans (by kernel_rfl)
end Go.Proofs.YtgnijlfakjjfcaaGreat
