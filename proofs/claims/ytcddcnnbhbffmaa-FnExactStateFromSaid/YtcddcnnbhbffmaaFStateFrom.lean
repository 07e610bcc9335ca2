/- The functions that the statement reaches, as the executor tells them; their contracts. No condition. -/
import Derived.Test.YtcddcnnbhbffmaaE36
import Derived.Test.YtcddcnnbhbffmaaProg
import Derived.Test.YtcddcnnbhbffmaaSFg
namespace Go.Proofs.Ytcddcnnbhbffmaa
open Go Go.Proofs.YtcddcnnbhbffmaaE
set_option linter.unusedVariables false
set_option maxRecDepth 100000
abbrev w_szStringS.s : Sig := ⟨18, [], [.val, .val], [.one (.row 9 .str), .one (.int .i64)], [.one (.int .i64)], [], [(0, [(0,false),(1,false),(5,false)])]⟩
noncomputable def w_szStringS.C (k : Nat) : List (Nat × Ctr) := []
noncomputable def w_szStringS.f (k : Nat) (a : List ByteArray) (left : Int) : Option Int := opq (w_szStringS.s.run Try.prog (w_szStringS.C k) k (a, left))
theorem w_szStringS.ok (k : Nat) : CtrOk Try.prog 18 (w_szStringS.s.ctr (fun x => w_szStringS.f k x.1 x.2)) := sig_ok w_szStringS.s .nil (by kernel_rfl) fun _ => opq_eq _
noncomputable def w_szStringS.l0 (k : Nat) (m : Nat) (a0 : List ByteArray) (left1 : Int) (i5 : Int) : Option Int := w_szStringS.s.head Try.prog (w_szStringS.C k) k 1 0 [] m [(0, AV.row 9 Kind.str a0), (1, AV.int IntKind.i64 left1), (5, AV.int IntKind.i64 i5)] [Root.dead]
theorem w_szStringS.l0_z (k : Nat) (a0 : List ByteArray) (left1 : Int) (i5 : Int) : w_szStringS.l0 k 0 a0 left1 i5 = none := by kernel_rfl
theorem w_szStringS.l0_s (k : Nat) (m : Nat) (a0 : List ByteArray) (left1 : Int) (i5 : Int) : w_szStringS.l0 k (m + 1) a0 left1 i5 =
 cn (decide (i5 < (↑a0.length : Int)))
 (gd (inb i5 a0.length)
  (cn (decide (IntKind.i64.wrap (left1 - (↑(getAt ByteArray.empty a0 i5.toNat).size : Int)) < (0 : Int)))
   (some ((-1 : Int)))
   (w_szStringS.l0 k m a0 (IntKind.i64.wrap (left1 - (↑(getAt ByteArray.empty a0 i5.toNat).size : Int))) (IntKind.i64.wrap (i5 + (1 : Int))))))
 (some left1) := by kernel_rfl
theorem w_szStringS.f_eq (k : Nat) (a : List ByteArray) (left : Int) : w_szStringS.f k a left =
 cn (decide (IntKind.i64.wrap (left - (↑a.length : Int)) < (0 : Int)))
 (some ((-1 : Int)))
 (w_szStringS.l0 k k a (IntKind.i64.wrap (left - (↑a.length : Int))) ((0 : Int))) := (opq_eq _).trans (by kernel_rfl)
abbrev w_toStringS.s : Sig := ⟨20, [], [.val], [.one (.row 9 .str)], [.one (.own 9 .str)], [], [(0, [(0,false),(3,true),(4,false)])]⟩
noncomputable def w_toStringS.C (k : Nat) : List (Nat × Ctr) := []
noncomputable def w_toStringS.f (k : Nat) (a : List ByteArray) : Option (List ByteArray) := opq (w_toStringS.s.run Try.prog (w_toStringS.C k) k a)
theorem w_toStringS.ok (k : Nat) : CtrOk Try.prog 20 (w_toStringS.s.ctr (fun x => w_toStringS.f k x)) := sig_ok w_toStringS.s .nil (by kernel_rfl) fun _ => opq_eq _
noncomputable def w_toStringS.l0 (k : Nat) (m : Nat) (a0 : List ByteArray) (i4 : Int) (h1 : List ByteArray) : Option (List ByteArray) := w_toStringS.s.head Try.prog (w_toStringS.C k) k 1 0 [] m [(0, AV.row 9 Kind.str a0), (3, AV.ref 1), (4, AV.int IntKind.i64 i4)] [Root.dead, Root.rows 9 Kind.str h1]
theorem w_toStringS.l0_z (k : Nat) (a0 : List ByteArray) (i4 : Int) (h1 : List ByteArray) : w_toStringS.l0 k 0 a0 i4 h1 = none := by kernel_rfl
theorem w_toStringS.l0_s (k : Nat) (m : Nat) (a0 : List ByteArray) (i4 : Int) (h1 : List ByteArray) : w_toStringS.l0 k (m + 1) a0 i4 h1 =
 cn (decide (i4 < (↑a0.length : Int)))
 (gd (inb i4 a0.length)
  (gd (inb i4 h1.length)
   (w_toStringS.l0 k m a0 (IntKind.i64.wrap (i4 + (1 : Int))) (h1.set i4.toNat (getAt ByteArray.empty a0 i4.toNat)))))
 (some h1) := by kernel_rfl
theorem w_toStringS.f_eq (k : Nat) (a : List ByteArray) : w_toStringS.f k a =
 gd (mkOk (↑a.length : Int) (↑a.length : Int) (Try.prog.bytesOf (9 : Nat)))
 (w_toStringS.l0 k k a ((0 : Int)) (List.replicate (↑a.length : Int).toNat ByteArray.empty)) := (opq_eq _).trans (by kernel_rfl)
abbrev s_l6Value.s : Sig := ⟨59, [], [.val], [.one .str], [.one (.int .i64)], [], [(0, [(0,false),(3,false),(4,false)])]⟩
noncomputable def s_l6Value.C (k : Nat) : List (Nat × Ctr) := []
noncomputable def s_l6Value.f (k : Nat) (s : ByteArray) : Option Int := opq (s_l6Value.s.run Try.prog (s_l6Value.C k) k s)
theorem s_l6Value.ok (k : Nat) : CtrOk Try.prog 59 (s_l6Value.s.ctr (fun x => s_l6Value.f k x)) := sig_ok s_l6Value.s .nil (by kernel_rfl) fun _ => opq_eq _
noncomputable def s_l6Value.l0 (k : Nat) (m : Nat) (s0 : ByteArray) (n3 : Int) (i4 : Int) : Option Int := s_l6Value.s.head Try.prog (s_l6Value.C k) k 1 0 [] m [(0, AV.str s0), (3, AV.int IntKind.i64 n3), (4, AV.int IntKind.i64 i4)] [Root.dead]
theorem s_l6Value.l0_z (k : Nat) (s0 : ByteArray) (n3 : Int) (i4 : Int) : s_l6Value.l0 k 0 s0 n3 i4 = none := by kernel_rfl
theorem s_l6Value.l0_s (k : Nat) (m : Nat) (s0 : ByteArray) (n3 : Int) (i4 : Int) : s_l6Value.l0 k (m + 1) s0 n3 i4 =
 cn (decide (i4 < (↑s0.size : Int)))
 (gd (inb i4 s0.size)
  (s_l6Value.l0 k m s0 (IntKind.i64.wrap (↑(BitVec.ofInt (64 : Nat) (IntKind.i64.wrap (n3 * (2 : Int) ^ (8 : Nat))) ||| BitVec.ofInt (64 : Nat) (IntKind.i64.wrap (↑(s0.data.getD i4.toNat (0 : UInt8)).toNat : Int))).toNat : Int)) (IntKind.i64.wrap (i4 + (1 : Int)))))
 (some n3) := by kernel_rfl
theorem s_l6Value.f_eq (k : Nat) (s : ByteArray) : s_l6Value.f k s =
 s_l6Value.l0 k k s ((0 : Int)) ((0 : Int)) := (opq_eq _).trans (by kernel_rfl)
abbrev s_StateFrom.s : Sig := ⟨19, [], [.val], [.one (.row 9 .str)], [.one (.own 3 (.int .i64)), .one .bool], [], [(0, [(4,false),(5,true),(6,false)])]⟩
noncomputable def s_StateFrom.C (k : Nat) : List (Nat × Ctr) := [(59, s_l6Value.s.ctr (fun x => s_l6Value.f k x))]
noncomputable def s_StateFrom.f (k : Nat) (l : List ByteArray) : Option (List Int × Bool) := opq (s_StateFrom.s.run Try.prog (s_StateFrom.C k) k l)
theorem s_StateFrom.ok (k : Nat) : CtrOk Try.prog 19 (s_StateFrom.s.ctr (fun x => s_StateFrom.f k x)) := sig_ok s_StateFrom.s (.cons (s_l6Value.ok k) .nil) (by kernel_rfl) fun _ => opq_eq _
noncomputable def s_StateFrom.l0 (k : Nat) (m : Nat) (s4 : ByteArray) (k6 : Int) (h1 : List Int) : Option (List Int × Bool) := s_StateFrom.s.head Try.prog (s_StateFrom.C k) k 1 0 [] m [(4, AV.str s4), (5, AV.ref 1), (6, AV.int IntKind.i64 k6)] [Root.dead, Root.rows 3 (Kind.int IntKind.i64) h1]
theorem s_StateFrom.l0_z (k : Nat) (s4 : ByteArray) (k6 : Int) (h1 : List Int) : s_StateFrom.l0 k 0 s4 k6 h1 = none := by kernel_rfl
theorem s_StateFrom.l0_s (k : Nat) (m : Nat) (s4 : ByteArray) (k6 : Int) (h1 : List Int) : s_StateFrom.l0 k (m + 1) s4 k6 h1 =
 cn (decide (k6 < (6 : Int)))
 (gd (decide ((0 : Int) ≤ IntKind.i64.wrap ((2 : Int) * k6)) && (decide (IntKind.i64.wrap ((2 : Int) * k6) ≤ IntKind.i64.wrap (IntKind.i64.wrap ((2 : Int) * k6) + (2 : Int))) && decide (IntKind.i64.wrap (IntKind.i64.wrap ((2 : Int) * k6) + (2 : Int)) ≤ (↑s4.size : Int))))
  ((s_l6Value.f k (s4.extract (IntKind.i64.wrap ((2 : Int) * k6)).toNat (IntKind.i64.wrap (IntKind.i64.wrap ((2 : Int) * k6) + (2 : Int))).toNat)).bind fun d0 =>
   gd (appOk (h1.length + [d0].length) (Try.prog.bytesOf (3 : Nat)))
   (s_StateFrom.l0 k m s4 (IntKind.i64.wrap (k6 + (1 : Int))) (h1 ++ [d0]))))
 (some ((h1, true))) := by kernel_rfl
theorem s_StateFrom.f_eq (k : Nat) (l : List ByteArray) : s_StateFrom.f k l =
 cn (!decide ((↑l.length : Int) = (2 : Int)))
 (some (([], false)))
 (gd (inb (0 : Int) l.length)
  (cn (!decide ((↑(getAt ByteArray.empty l (0 : Nat)).size : Int) = (6 : Int)))
   (some (([], false)))
   (gd (inb (1 : Int) l.length)
    (cn (!decide ((↑(getAt ByteArray.empty l (1 : Nat)).size : Int) = (6 : Int)))
     (some (([], false)))
     (gd (inb (0 : Int) l.length)
      (gd (inb (1 : Int) l.length)
       (gd (decide ((getAt ByteArray.empty l (0 : Nat)).size + (getAt ByteArray.empty l (1 : Nat)).size ≤ (140737488355328 : Nat)))
        (s_StateFrom.l0 k k (getAt ByteArray.empty l (0 : Nat) ++ getAt ByteArray.empty l (1 : Nat)) ((0 : Int)) ([]))))))))) := (opq_eq _).trans (by kernel_rfl)
abbrev i_StateFrom.s : Sig := ⟨21, [], [.val], [.one (.row 9 .str)], [.one (.own 3 (.int .i64)), .one .bool], [], []⟩
noncomputable def i_StateFrom.f (k : Nat) (l : List ByteArray) : Option (List Int × Bool) := sfF l
theorem i_StateFrom.ok (k : Nat) : CtrOk Try.prog 21 (i_StateFrom.s.ctr fun x => i_StateFrom.f k x) := sf_ctr
abbrev w_eqIntS.s : Sig := ⟨14, [], [.val, .val], [.one (.row 3 (.int .i64)), .one (.row 3 (.int .i64))], [.one .bool], [], [(0, [(0,false),(1,false),(5,false)])]⟩
noncomputable def w_eqIntS.C (k : Nat) : List (Nat × Ctr) := []
noncomputable def w_eqIntS.f (k : Nat) (a : List Int) (b : List Int) : Option Bool := opq (w_eqIntS.s.run Try.prog (w_eqIntS.C k) k (a, b))
theorem w_eqIntS.ok (k : Nat) : CtrOk Try.prog 14 (w_eqIntS.s.ctr (fun x => w_eqIntS.f k x.1 x.2)) := sig_ok w_eqIntS.s .nil (by kernel_rfl) fun _ => opq_eq _
noncomputable def w_eqIntS.l0 (k : Nat) (m : Nat) (a0 : List Int) (b1 : List Int) (i5 : Int) : Option Bool := w_eqIntS.s.head Try.prog (w_eqIntS.C k) k 1 0 [] m [(0, AV.row 3 (Kind.int IntKind.i64) a0), (1, AV.row 3 (Kind.int IntKind.i64) b1), (5, AV.int IntKind.i64 i5)] [Root.dead]
theorem w_eqIntS.l0_z (k : Nat) (a0 : List Int) (b1 : List Int) (i5 : Int) : w_eqIntS.l0 k 0 a0 b1 i5 = none := by kernel_rfl
theorem w_eqIntS.l0_s (k : Nat) (m : Nat) (a0 : List Int) (b1 : List Int) (i5 : Int) : w_eqIntS.l0 k (m + 1) a0 b1 i5 =
 cn (decide (i5 < (↑a0.length : Int)))
 (gd (inb i5 a0.length)
  (gd (inb i5 b1.length)
   (cn (!decide (getAt (0 : Int) a0 i5.toNat = getAt (0 : Int) b1 i5.toNat))
    (some false)
    (w_eqIntS.l0 k m a0 b1 (IntKind.i64.wrap (i5 + (1 : Int)))))))
 (some true) := by kernel_rfl
theorem w_eqIntS.f_eq (k : Nat) (a : List Int) (b : List Int) : w_eqIntS.f k a b =
 cn (!decide ((↑a.length : Int) = (↑b.length : Int)))
 (some false)
 (w_eqIntS.l0 k k a b ((0 : Int))) := (opq_eq _).trans (by kernel_rfl)
abbrev w_eqStringS.s : Sig := ⟨13, [], [.val, .val], [.one (.row 9 .str), .one (.row 9 .str)], [.one .bool], [], [(0, [(0,false),(1,false),(5,false)])]⟩
noncomputable def w_eqStringS.C (k : Nat) : List (Nat × Ctr) := []
noncomputable def w_eqStringS.f (k : Nat) (a : List ByteArray) (b : List ByteArray) : Option Bool := opq (w_eqStringS.s.run Try.prog (w_eqStringS.C k) k (a, b))
theorem w_eqStringS.ok (k : Nat) : CtrOk Try.prog 13 (w_eqStringS.s.ctr (fun x => w_eqStringS.f k x.1 x.2)) := sig_ok w_eqStringS.s .nil (by kernel_rfl) fun _ => opq_eq _
noncomputable def w_eqStringS.l0 (k : Nat) (m : Nat) (a0 : List ByteArray) (b1 : List ByteArray) (i5 : Int) : Option Bool := w_eqStringS.s.head Try.prog (w_eqStringS.C k) k 1 0 [] m [(0, AV.row 9 Kind.str a0), (1, AV.row 9 Kind.str b1), (5, AV.int IntKind.i64 i5)] [Root.dead]
theorem w_eqStringS.l0_z (k : Nat) (a0 : List ByteArray) (b1 : List ByteArray) (i5 : Int) : w_eqStringS.l0 k 0 a0 b1 i5 = none := by kernel_rfl
theorem w_eqStringS.l0_s (k : Nat) (m : Nat) (a0 : List ByteArray) (b1 : List ByteArray) (i5 : Int) : w_eqStringS.l0 k (m + 1) a0 b1 i5 =
 cn (decide (i5 < (↑a0.length : Int)))
 (gd (inb i5 a0.length)
  (gd (inb i5 b1.length)
   (cn (!decide ((getAt ByteArray.empty a0 i5.toNat).toList = (getAt ByteArray.empty b1 i5.toNat).toList))
    (some false)
    (w_eqStringS.l0 k m a0 b1 (IntKind.i64.wrap (i5 + (1 : Int)))))))
 (some true) := by kernel_rfl
theorem w_eqStringS.f_eq (k : Nat) (a : List ByteArray) (b : List ByteArray) : w_eqStringS.f k a b =
 cn (!decide ((↑a.length : Int) = (↑b.length : Int)))
 (some false)
 (w_eqStringS.l0 k k a b ((0 : Int))) := (opq_eq _).trans (by kernel_rfl)
abbrev w_markText.s : Sig := ⟨58, [], [.val], [.one (.int .i64)], [.one .str], [], [(0, [(0,false),(3,false)])]⟩
noncomputable def w_markText.C (k : Nat) : List (Nat × Ctr) := []
noncomputable def w_markText.f (k : Nat) (k_ : Int) : Option ByteArray := opq (w_markText.s.run Try.prog (w_markText.C k) k k_)
theorem w_markText.ok (k : Nat) : CtrOk Try.prog 58 (w_markText.s.ctr (fun x => w_markText.f k x)) := sig_ok w_markText.s .nil (by kernel_rfl) fun _ => opq_eq _
noncomputable def w_markText.l0 (k : Nat) (m : Nat) (k0 : Int) (out3 : ByteArray) : Option ByteArray := w_markText.s.head Try.prog (w_markText.C k) k 1 0 [] m [(0, AV.int IntKind.i64 k0), (3, AV.str out3)] [Root.dead]
theorem w_markText.l0_z (k : Nat) (k0 : Int) (out3 : ByteArray) : w_markText.l0 k 0 k0 out3 = none := by kernel_rfl
theorem w_markText.l0_s (k : Nat) (m : Nat) (k0 : Int) (out3 : ByteArray) : w_markText.l0 k (m + 1) k0 out3 =
 cn (decide ((0 : Int) < k0))
 (gd (decide ((strOfNums [IntKind.u8.wrap (IntKind.i64.wrap ((48 : Int) + k0.tmod (10 : Int)))]).size + out3.size ≤ (140737488355328 : Nat)))
  (w_markText.l0 k m (IntKind.i64.wrap (k0.tdiv (10 : Int))) (strOfNums [IntKind.u8.wrap (IntKind.i64.wrap ((48 : Int) + k0.tmod (10 : Int)))] ++ out3)))
 (gd (decide ((1 : Nat) + out3.size ≤ (140737488355328 : Nat)))
  (some ({ data := #[(109 : UInt8)] : ByteArray } ++ out3))) := by kernel_rfl
theorem w_markText.f_eq (k : Nat) (k_ : Int) : w_markText.f k k_ =
 cn (decide (k_ ≤ (0 : Int)))
 (some ({ data := #[(109 : UInt8), (48 : UInt8)] : ByteArray }))
 (w_markText.l0 k k k_ ByteArray.empty) := (opq_eq _).trans (by kernel_rfl)
abbrev w_markStringS.s : Sig := ⟨16, [], [.chg, .val], [.one (.row 9 .str), .one (.int .i64)], [.one (.int .i64)], [.rows 9 .str], [(0, [(0,false),(1,false),(5,false)])]⟩
noncomputable def w_markStringS.C (k : Nat) : List (Nat × Ctr) := [(58, w_markText.s.ctr (fun x => w_markText.f k x))]
noncomputable def w_markStringS.f (k : Nat) (a : List ByteArray) (k_ : Int) : Option (Int × List ByteArray) := opq (w_markStringS.s.run Try.prog (w_markStringS.C k) k (a, k_))
theorem w_markStringS.ok (k : Nat) : CtrOk Try.prog 16 (w_markStringS.s.ctr (fun x => w_markStringS.f k x.1 x.2)) := sig_ok w_markStringS.s (.cons (w_markText.ok k) .nil) (by kernel_rfl) fun _ => opq_eq _
noncomputable def w_markStringS.l0 (k : Nat) (m : Nat) (k1 : Int) (i5 : Int) (h1 : List ByteArray) : Option (Int × List ByteArray) := w_markStringS.s.head Try.prog (w_markStringS.C k) k 2 0 [] m [(0, AV.ref 1), (1, AV.int IntKind.i64 k1), (5, AV.int IntKind.i64 i5)] [Root.dead, Root.rows 9 Kind.str h1]
theorem w_markStringS.l0_z (k : Nat) (k1 : Int) (i5 : Int) (h1 : List ByteArray) : w_markStringS.l0 k 0 k1 i5 h1 = none := by kernel_rfl
theorem w_markStringS.l0_s (k : Nat) (m : Nat) (k1 : Int) (i5 : Int) (h1 : List ByteArray) : w_markStringS.l0 k (m + 1) k1 i5 h1 =
 cn (decide (i5 < (↑h1.length : Int)))
 ((w_markText.f k k1).bind fun d0 =>
  gd (inb i5 h1.length)
  (w_markStringS.l0 k m (IntKind.i64.wrap (k1 + (1 : Int))) (IntKind.i64.wrap (i5 + (1 : Int))) (h1.set i5.toNat d0)))
 (some ((k1, h1))) := by kernel_rfl
theorem w_markStringS.f_eq (k : Nat) (a : List ByteArray) (k_ : Int) : w_markStringS.f k a k_ =
 w_markStringS.l0 k k k_ ((0 : Int)) a := (opq_eq _).trans (by kernel_rfl)
abbrev w_markIntS.s : Sig := ⟨15, [], [.chg, .val], [.one (.row 3 (.int .i64)), .one (.int .i64)], [.one (.int .i64)], [.rows 3 (.int .i64)], [(0, [(0,false),(1,false),(5,false)])]⟩
noncomputable def w_markIntS.C (k : Nat) : List (Nat × Ctr) := []
noncomputable def w_markIntS.f (k : Nat) (a : List Int) (k_ : Int) : Option (Int × List Int) := opq (w_markIntS.s.run Try.prog (w_markIntS.C k) k (a, k_))
theorem w_markIntS.ok (k : Nat) : CtrOk Try.prog 15 (w_markIntS.s.ctr (fun x => w_markIntS.f k x.1 x.2)) := sig_ok w_markIntS.s .nil (by kernel_rfl) fun _ => opq_eq _
noncomputable def w_markIntS.l0 (k : Nat) (m : Nat) (k1 : Int) (i5 : Int) (h1 : List Int) : Option (Int × List Int) := w_markIntS.s.head Try.prog (w_markIntS.C k) k 2 0 [] m [(0, AV.ref 1), (1, AV.int IntKind.i64 k1), (5, AV.int IntKind.i64 i5)] [Root.dead, Root.rows 3 (Kind.int IntKind.i64) h1]
theorem w_markIntS.l0_z (k : Nat) (k1 : Int) (i5 : Int) (h1 : List Int) : w_markIntS.l0 k 0 k1 i5 h1 = none := by kernel_rfl
theorem w_markIntS.l0_s (k : Nat) (m : Nat) (k1 : Int) (i5 : Int) (h1 : List Int) : w_markIntS.l0 k (m + 1) k1 i5 h1 =
 cn (decide (i5 < (↑h1.length : Int)))
 (gd (inb i5 h1.length)
  (w_markIntS.l0 k m (IntKind.i64.wrap (k1 + (1 : Int))) (IntKind.i64.wrap (i5 + (1 : Int))) (h1.set i5.toNat k1)))
 (some ((k1, h1))) := by kernel_rfl
theorem w_markIntS.f_eq (k : Nat) (a : List Int) (k_ : Int) : w_markIntS.f k a k_ =
 w_markIntS.l0 k k k_ ((0 : Int)) a := (opq_eq _).trans (by kernel_rfl)
abbrev w_heldIntS.s : Sig := ⟨22, [], [.val, .val], [.one (.row 3 (.int .i64)), .one (.int .i64)], [.one (.int .i64)], [], [(0, [(0,false),(1,false),(5,false)])]⟩
noncomputable def w_heldIntS.C (k : Nat) : List (Nat × Ctr) := []
noncomputable def w_heldIntS.f (k : Nat) (a : List Int) (k_ : Int) : Option Int := opq (w_heldIntS.s.run Try.prog (w_heldIntS.C k) k (a, k_))
theorem w_heldIntS.ok (k : Nat) : CtrOk Try.prog 22 (w_heldIntS.s.ctr (fun x => w_heldIntS.f k x.1 x.2)) := sig_ok w_heldIntS.s .nil (by kernel_rfl) fun _ => opq_eq _
noncomputable def w_heldIntS.l0 (k : Nat) (m : Nat) (a0 : List Int) (k1 : Int) (i5 : Int) : Option Int := w_heldIntS.s.head Try.prog (w_heldIntS.C k) k 1 0 [] m [(0, AV.row 3 (Kind.int IntKind.i64) a0), (1, AV.int IntKind.i64 k1), (5, AV.int IntKind.i64 i5)] [Root.dead]
theorem w_heldIntS.l0_z (k : Nat) (a0 : List Int) (k1 : Int) (i5 : Int) : w_heldIntS.l0 k 0 a0 k1 i5 = none := by kernel_rfl
theorem w_heldIntS.l0_s (k : Nat) (m : Nat) (a0 : List Int) (k1 : Int) (i5 : Int) : w_heldIntS.l0 k (m + 1) a0 k1 i5 =
 cn (decide (i5 < (↑a0.length : Int)))
 (gd (inb i5 a0.length)
  (cn (!decide (getAt (0 : Int) a0 i5.toNat = k1))
   (some ((-1 : Int)))
   (w_heldIntS.l0 k m a0 (IntKind.i64.wrap (k1 + (1 : Int))) (IntKind.i64.wrap (i5 + (1 : Int))))))
 (some k1) := by kernel_rfl
theorem w_heldIntS.f_eq (k : Nat) (a : List Int) (k_ : Int) : w_heldIntS.f k a k_ =
 w_heldIntS.l0 k k a k_ ((0 : Int)) := (opq_eq _).trans (by kernel_rfl)
abbrev w_FnExactStateFrom.s : Sig := ⟨4, [], [.val], [.one (.row 9 .str)], [.one .bool], [], []⟩
noncomputable def w_FnExactStateFrom.C (k : Nat) : List (Nat × Ctr) := [(13, w_eqStringS.s.ctr (fun x => w_eqStringS.f k x.1 x.2)), (14, w_eqIntS.s.ctr (fun x => w_eqIntS.f k x.1 x.2)), (15, w_markIntS.s.ctr (fun x => w_markIntS.f k x.1 x.2)), (16, w_markStringS.s.ctr (fun x => w_markStringS.f k x.1 x.2)), (18, w_szStringS.s.ctr (fun x => w_szStringS.f k x.1 x.2)), (19, s_StateFrom.s.ctr (fun x => s_StateFrom.f k x)), (20, w_toStringS.s.ctr (fun x => w_toStringS.f k x)), (21, i_StateFrom.s.ctr (fun x => i_StateFrom.f k x)), (22, w_heldIntS.s.ctr (fun x => w_heldIntS.f k x.1 x.2))]
noncomputable def w_FnExactStateFrom.f (k : Nat) (aL : List ByteArray) : Option Bool := opq (w_FnExactStateFrom.s.run Try.prog (w_FnExactStateFrom.C k) k aL)
theorem w_FnExactStateFrom.ok (k : Nat) : CtrOk Try.prog 4 (w_FnExactStateFrom.s.ctr (fun x => w_FnExactStateFrom.f k x)) := sig_ok w_FnExactStateFrom.s (.cons (w_eqStringS.ok k) (.cons (w_eqIntS.ok k) (.cons (w_markIntS.ok k) (.cons (w_markStringS.ok k) (.cons (w_szStringS.ok k) (.cons (s_StateFrom.ok k) (.cons (w_toStringS.ok k) (.cons (i_StateFrom.ok k) (.cons (w_heldIntS.ok k) .nil))))))))) (by kernel_rfl) fun _ => opq_eq _
theorem w_FnExactStateFrom.f_eq (k : Nat) (aL : List ByteArray) : w_FnExactStateFrom.f k aL =
 (w_szStringS.f k aL (1048576 : Int)).bind fun d0 =>
 cn (decide (d0 < (0 : Int)))
 (some true)
 ((w_toStringS.f k aL).bind fun d1 =>
  (s_StateFrom.f k d1).bind fun d2 =>
  (w_toStringS.f k aL).bind fun d3 =>
  (i_StateFrom.f k d3).bind fun d4 =>
  (w_eqIntS.f k d4.fst d2.fst).bind fun d5 =>
  cn (!d5)
  (some false)
  (cn (!d4.snd == d2.snd)
   (some false)
   ((w_toStringS.f k aL).bind fun d6 =>
    (w_eqStringS.f k d3 d6).bind fun d7 =>
    cn (!d7)
    (some false)
    ((w_markStringS.f k d3 (1 : Int)).bind fun d8 =>
     cn (decide (d8.fst < (0 : Int)))
     (some false)
     ((w_eqIntS.f k d4.fst d2.fst).bind fun d9 =>
      cn (!d9)
      (some false)
      (cn (!d4.snd == d2.snd)
       (some false)
       ((w_markIntS.f k d4.fst (1 : Int)).bind fun d10 =>
        (w_heldIntS.f k d10.snd (1 : Int)).bind fun d11 =>
        cn (decide (d11 < (0 : Int)))
        (some false)
        (cn (!decide (d11 = d10.fst))
         (some false)
         ((w_toStringS.f k aL).bind fun d12 =>
          (i_StateFrom.f k d12).bind fun d13 =>
          (w_eqIntS.f k d13.fst d2.fst).bind fun d14 =>
          cn (!d14)
          (some false)
          (cn (!d13.snd == d2.snd)
           (some false)
           ((w_heldIntS.f k d10.snd (1 : Int)).bind fun d15 =>
            cn (decide (d15 < (0 : Int)))
            (some false)
            (cn (!decide (d15 = d10.fst))
             (some false)
             (some true))))))))))))) := (opq_eq _).trans (by kernel_rfl)
end Go.Proofs.Ytcddcnnbhbffmaa
