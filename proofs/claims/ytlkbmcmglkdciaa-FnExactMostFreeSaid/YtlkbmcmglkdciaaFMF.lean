/- The functions that the statement reaches, as the executor tells them; their contracts. No condition. -/
import Derived.Test.YtlkbmcmglkdciaaE36
import Derived.Test.YtlkbmcmglkdciaaProg
import Derived.Test.YtlkbmcmglkdciaaR14s
namespace Go.Proofs.Ytlkbmcmglkdciaa
open Go Go.Proofs.YtlkbmcmglkdciaaE
set_option linter.unusedVariables false
set_option maxRecDepth 100000
abbrev w_szIntS.s : Sig := ⟨94, [], [.val, .val], [.one (.row 3 (.int .i64)), .one (.int .i64)], [.one (.int .i64)], [], []⟩
noncomputable def w_szIntS.C (k : Nat) : List (Nat × Ctr) := []
noncomputable def w_szIntS.f (k : Nat) (a : List Int) (left : Int) : Option Int := opq (w_szIntS.s.run Try.prog (w_szIntS.C k) k (a, left))
theorem w_szIntS.ok (k : Nat) : CtrOk Try.prog 94 (w_szIntS.s.ctr (fun x => w_szIntS.f k x.1 x.2)) := sig_ok w_szIntS.s .nil (by kernel_rfl) fun _ => opq_eq _
theorem w_szIntS.f_eq (k : Nat) (a : List Int) (left : Int) : w_szIntS.f k a left =
 cn (decide (IntKind.i64.wrap (left - (↑a.length : Int)) < (0 : Int)))
 (some ((-1 : Int)))
 (some (IntKind.i64.wrap (left - (↑a.length : Int)))) := (opq_eq _).trans (by kernel_rfl)
abbrev w_szIntSS.s : Sig := ⟨61, [], [.val, .val], [.one (.row 30 (.sl 3 (.int .i64))), .one (.int .i64)], [.one (.int .i64)], [], [(0, [(0,false),(1,false),(5,false)])]⟩
noncomputable def w_szIntSS.C (k : Nat) : List (Nat × Ctr) := [(94, w_szIntS.s.ctr (fun x => w_szIntS.f k x.1 x.2))]
noncomputable def w_szIntSS.f (k : Nat) (a : List (List Int)) (left : Int) : Option Int := opq (w_szIntSS.s.run Try.prog (w_szIntSS.C k) k (a, left))
theorem w_szIntSS.ok (k : Nat) : CtrOk Try.prog 61 (w_szIntSS.s.ctr (fun x => w_szIntSS.f k x.1 x.2)) := sig_ok w_szIntSS.s (.cons (w_szIntS.ok k) .nil) (by kernel_rfl) fun _ => opq_eq _
noncomputable def w_szIntSS.l0 (k : Nat) (m : Nat) (a0 : List (List Int)) (left1 : Int) (i5 : Int) : Option Int := w_szIntSS.s.head Try.prog (w_szIntSS.C k) k 1 0 [] m [(0, AV.row 30 (Kind.sl 3 (Kind.int IntKind.i64)) a0), (1, AV.int IntKind.i64 left1), (5, AV.int IntKind.i64 i5)] [Root.dead]
theorem w_szIntSS.l0_z (k : Nat) (a0 : List (List Int)) (left1 : Int) (i5 : Int) : w_szIntSS.l0 k 0 a0 left1 i5 = none := by kernel_rfl
theorem w_szIntSS.l0_s (k : Nat) (m : Nat) (a0 : List (List Int)) (left1 : Int) (i5 : Int) : w_szIntSS.l0 k (m + 1) a0 left1 i5 =
 cn (decide (i5 < (↑a0.length : Int)))
 (gd (inb i5 a0.length)
  ((w_szIntS.f k (getAt [] a0 i5.toNat) left1).bind fun d0 =>
   cn (decide (d0 < (0 : Int)))
   (some ((-1 : Int)))
   (w_szIntSS.l0 k m a0 d0 (IntKind.i64.wrap (i5 + (1 : Int))))))
 (some left1) := by kernel_rfl
theorem w_szIntSS.f_eq (k : Nat) (a : List (List Int)) (left : Int) : w_szIntSS.f k a left =
 cn (decide (IntKind.i64.wrap (left - (↑a.length : Int)) < (0 : Int)))
 (some ((-1 : Int)))
 (w_szIntSS.l0 k k a (IntKind.i64.wrap (left - (↑a.length : Int))) ((0 : Int))) := (opq_eq _).trans (by kernel_rfl)
abbrev w_szHeldS.s : Sig := ⟨62, [], [.val, .val], [.one (.row 98 (.pair (.int .i64) (.int .i64))), .one (.int .i64)], [.one (.int .i64)], [], []⟩
noncomputable def w_szHeldS.C (k : Nat) : List (Nat × Ctr) := []
noncomputable def w_szHeldS.f (k : Nat) (a : List (Int × Int)) (left : Int) : Option Int := opq (w_szHeldS.s.run Try.prog (w_szHeldS.C k) k (a, left))
theorem w_szHeldS.ok (k : Nat) : CtrOk Try.prog 62 (w_szHeldS.s.ctr (fun x => w_szHeldS.f k x.1 x.2)) := sig_ok w_szHeldS.s .nil (by kernel_rfl) fun _ => opq_eq _
theorem w_szHeldS.f_eq (k : Nat) (a : List (Int × Int)) (left : Int) : w_szHeldS.f k a left =
 cn (decide (IntKind.i64.wrap (left - (↑a.length : Int)) < (0 : Int)))
 (some ((-1 : Int)))
 (some (IntKind.i64.wrap (left - (↑a.length : Int)))) := (opq_eq _).trans (by kernel_rfl)
abbrev w_szRooms.s : Sig := ⟨23, [], [.val, .val], [.agg [.row 30 (.sl 3 (.int .i64)), .row 98 (.pair (.int .i64) (.int .i64))], .one (.int .i64)], [.one (.int .i64)], [], []⟩
noncomputable def w_szRooms.C (k : Nat) : List (Nat × Ctr) := [(61, w_szIntSS.s.ctr (fun x => w_szIntSS.f k x.1 x.2)), (62, w_szHeldS.s.ctr (fun x => w_szHeldS.f k x.1 x.2))]
noncomputable def w_szRooms.f (k : Nat) (a_Free : List (List Int)) (a_Held : List (Int × Int)) (left : Int) : Option Int := opq (w_szRooms.s.run Try.prog (w_szRooms.C k) k ((a_Free, a_Held), left))
theorem w_szRooms.ok (k : Nat) : CtrOk Try.prog 23 (w_szRooms.s.ctr (fun x => w_szRooms.f k x.1.1 x.1.2 x.2)) := sig_ok w_szRooms.s (.cons (w_szIntSS.ok k) (.cons (w_szHeldS.ok k) .nil)) (by kernel_rfl) fun _ => opq_eq _
theorem w_szRooms.f_eq (k : Nat) (a_Free : List (List Int)) (a_Held : List (Int × Int)) (left : Int) : w_szRooms.f k a_Free a_Held left =
 (w_szIntSS.f k a_Free left).bind fun d0 =>
 cn (decide (d0 < (0 : Int)))
 (some ((-1 : Int)))
 ((w_szHeldS.f k a_Held d0).bind fun d1 =>
  cn (decide (d1 < (0 : Int)))
  (some ((-1 : Int)))
  (some d1)) := (opq_eq _).trans (by kernel_rfl)
abbrev w_toIntS.s : Sig := ⟨18, [], [.val], [.one (.row 3 (.int .i64))], [.one (.own 3 (.int .i64))], [], [(0, [(0,false),(3,true),(4,false)])]⟩
noncomputable def w_toIntS.C (k : Nat) : List (Nat × Ctr) := []
noncomputable def w_toIntS.f (k : Nat) (a : List Int) : Option (List Int) := opq (w_toIntS.s.run Try.prog (w_toIntS.C k) k a)
theorem w_toIntS.ok (k : Nat) : CtrOk Try.prog 18 (w_toIntS.s.ctr (fun x => w_toIntS.f k x)) := sig_ok w_toIntS.s .nil (by kernel_rfl) fun _ => opq_eq _
noncomputable def w_toIntS.l0 (k : Nat) (m : Nat) (a0 : List Int) (i4 : Int) (h1 : List Int) : Option (List Int) := w_toIntS.s.head Try.prog (w_toIntS.C k) k 1 0 [] m [(0, AV.row 3 (Kind.int IntKind.i64) a0), (3, AV.ref 1), (4, AV.int IntKind.i64 i4)] [Root.dead, Root.rows 3 (Kind.int IntKind.i64) h1]
theorem w_toIntS.l0_z (k : Nat) (a0 : List Int) (i4 : Int) (h1 : List Int) : w_toIntS.l0 k 0 a0 i4 h1 = none := by kernel_rfl
theorem w_toIntS.l0_s (k : Nat) (m : Nat) (a0 : List Int) (i4 : Int) (h1 : List Int) : w_toIntS.l0 k (m + 1) a0 i4 h1 =
 cn (decide (i4 < (↑a0.length : Int)))
 (gd (inb i4 a0.length)
  (gd (inb i4 h1.length)
   (w_toIntS.l0 k m a0 (IntKind.i64.wrap (i4 + (1 : Int))) (h1.set i4.toNat (getAt (0 : Int) a0 i4.toNat)))))
 (some h1) := by kernel_rfl
theorem w_toIntS.f_eq (k : Nat) (a : List Int) : w_toIntS.f k a =
 gd (mkOk (↑a.length : Int) (↑a.length : Int) (Try.prog.bytesOf (3 : Nat)))
 (w_toIntS.l0 k k a ((0 : Int)) (List.replicate (↑a.length : Int).toNat (0 : Int))) := (opq_eq _).trans (by kernel_rfl)
abbrev w_toIntSS.s : Sig := ⟨66, [], [.val], [.one (.row 30 (.sl 3 (.int .i64)))], [.one (.own 30 (.sl 3 (.int .i64)))], [], [(0, [(0,false),(3,true),(4,false)])]⟩
noncomputable def w_toIntSS.C (k : Nat) : List (Nat × Ctr) := [(18, w_toIntS.s.ctr (fun x => w_toIntS.f k x))]
noncomputable def w_toIntSS.f (k : Nat) (a : List (List Int)) : Option (List (List Int)) := opq (w_toIntSS.s.run Try.prog (w_toIntSS.C k) k a)
theorem w_toIntSS.ok (k : Nat) : CtrOk Try.prog 66 (w_toIntSS.s.ctr (fun x => w_toIntSS.f k x)) := sig_ok w_toIntSS.s (.cons (w_toIntS.ok k) .nil) (by kernel_rfl) fun _ => opq_eq _
noncomputable def w_toIntSS.l0 (k : Nat) (m : Nat) (a0 : List (List Int)) (i4 : Int) (h1 : List (List Int)) : Option (List (List Int)) := w_toIntSS.s.head Try.prog (w_toIntSS.C k) k 1 0 [] m [(0, AV.row 30 (Kind.sl 3 (Kind.int IntKind.i64)) a0), (3, AV.ref 1), (4, AV.int IntKind.i64 i4)] [Root.dead, Root.rows 30 (Kind.sl 3 (Kind.int IntKind.i64)) h1]
theorem w_toIntSS.l0_z (k : Nat) (a0 : List (List Int)) (i4 : Int) (h1 : List (List Int)) : w_toIntSS.l0 k 0 a0 i4 h1 = none := by kernel_rfl
theorem w_toIntSS.l0_s (k : Nat) (m : Nat) (a0 : List (List Int)) (i4 : Int) (h1 : List (List Int)) : w_toIntSS.l0 k (m + 1) a0 i4 h1 =
 cn (decide (i4 < (↑a0.length : Int)))
 (gd (inb i4 a0.length)
  ((w_toIntS.f k (getAt [] a0 i4.toNat)).bind fun d0 =>
   gd (inb i4 h1.length)
   (w_toIntSS.l0 k m a0 (IntKind.i64.wrap (i4 + (1 : Int))) (h1.set i4.toNat d0))))
 (some h1) := by kernel_rfl
theorem w_toIntSS.f_eq (k : Nat) (a : List (List Int)) : w_toIntSS.f k a =
 gd (mkOk (↑a.length : Int) (↑a.length : Int) (Try.prog.bytesOf (30 : Nat)))
 (w_toIntSS.l0 k k a ((0 : Int)) (List.replicate (↑a.length : Int).toNat [])) := (opq_eq _).trans (by kernel_rfl)
abbrev w_toHeld.s : Sig := ⟨95, [], [.val], [.agg [.int .i64, .int .i64]], [.agg [.int .i64, .int .i64]], [], []⟩
noncomputable def w_toHeld.C (k : Nat) : List (Nat × Ctr) := []
noncomputable def w_toHeld.f (k : Nat) (a_At : Int) (a_Order : Int) : Option (Int × Int) := opq (w_toHeld.s.run Try.prog (w_toHeld.C k) k (a_At, a_Order))
theorem w_toHeld.ok (k : Nat) : CtrOk Try.prog 95 (w_toHeld.s.ctr (fun x => w_toHeld.f k x.1 x.2)) := sig_ok w_toHeld.s .nil (by kernel_rfl) fun _ => opq_eq _
theorem w_toHeld.f_eq (k : Nat) (a_At : Int) (a_Order : Int) : w_toHeld.f k a_At a_Order =
 some ((a_At, a_Order)) := (opq_eq _).trans (by kernel_rfl)
abbrev w_toHeldS.s : Sig := ⟨67, [], [.val], [.one (.row 98 (.pair (.int .i64) (.int .i64)))], [.one (.own 49 (.pair (.int .i64) (.int .i64)))], [], [(0, [(0,false),(3,true),(4,false)])]⟩
noncomputable def w_toHeldS.C (k : Nat) : List (Nat × Ctr) := [(95, w_toHeld.s.ctr (fun x => w_toHeld.f k x.1 x.2))]
noncomputable def w_toHeldS.f (k : Nat) (a : List (Int × Int)) : Option (List (Int × Int)) := opq (w_toHeldS.s.run Try.prog (w_toHeldS.C k) k a)
theorem w_toHeldS.ok (k : Nat) : CtrOk Try.prog 67 (w_toHeldS.s.ctr (fun x => w_toHeldS.f k x)) := sig_ok w_toHeldS.s (.cons (w_toHeld.ok k) .nil) (by kernel_rfl) fun _ => opq_eq _
noncomputable def w_toHeldS.l0 (k : Nat) (m : Nat) (a0 : List (Int × Int)) (i4 : Int) (h1 : List (Int × Int)) : Option (List (Int × Int)) := w_toHeldS.s.head Try.prog (w_toHeldS.C k) k 1 0 [] m [(0, AV.row 98 ((Kind.int IntKind.i64).pair (Kind.int IntKind.i64)) a0), (3, AV.ref 1), (4, AV.int IntKind.i64 i4)] [Root.dead, Root.rows 49 ((Kind.int IntKind.i64).pair (Kind.int IntKind.i64)) h1]
theorem w_toHeldS.l0_z (k : Nat) (a0 : List (Int × Int)) (i4 : Int) (h1 : List (Int × Int)) : w_toHeldS.l0 k 0 a0 i4 h1 = none := by kernel_rfl
theorem w_toHeldS.l0_s (k : Nat) (m : Nat) (a0 : List (Int × Int)) (i4 : Int) (h1 : List (Int × Int)) : w_toHeldS.l0 k (m + 1) a0 i4 h1 =
 cn (decide (i4 < (↑a0.length : Int)))
 (gd (inb i4 a0.length)
  ((w_toHeld.f k (getAt ((0 : Int), (0 : Int)) a0 i4.toNat).fst (getAt ((0 : Int), (0 : Int)) a0 i4.toNat).snd).bind fun d0 =>
   gd (inb i4 h1.length)
   (w_toHeldS.l0 k m a0 (IntKind.i64.wrap (i4 + (1 : Int))) (h1.set i4.toNat (d0.fst, d0.snd)))))
 (some h1) := by kernel_rfl
theorem w_toHeldS.f_eq (k : Nat) (a : List (Int × Int)) : w_toHeldS.f k a =
 gd (mkOk (↑a.length : Int) (↑a.length : Int) (Try.prog.bytesOf (49 : Nat)))
 (w_toHeldS.l0 k k a ((0 : Int)) (List.replicate (↑a.length : Int).toNat ((0 : Int), (0 : Int)))) := (opq_eq _).trans (by kernel_rfl)
abbrev w_toRooms.s : Sig := ⟨25, [], [.val], [.agg [.row 30 (.sl 3 (.int .i64)), .row 98 (.pair (.int .i64) (.int .i64))]], [.agg [.own 30 (.sl 3 (.int .i64)), .own 49 (.pair (.int .i64) (.int .i64))]], [], []⟩
noncomputable def w_toRooms.C (k : Nat) : List (Nat × Ctr) := [(66, w_toIntSS.s.ctr (fun x => w_toIntSS.f k x)), (67, w_toHeldS.s.ctr (fun x => w_toHeldS.f k x))]
noncomputable def w_toRooms.f (k : Nat) (a_Free : List (List Int)) (a_Held : List (Int × Int)) : Option (List (List Int) × (List (Int × Int))) := opq (w_toRooms.s.run Try.prog (w_toRooms.C k) k (a_Free, a_Held))
theorem w_toRooms.ok (k : Nat) : CtrOk Try.prog 25 (w_toRooms.s.ctr (fun x => w_toRooms.f k x.1 x.2)) := sig_ok w_toRooms.s (.cons (w_toIntSS.ok k) (.cons (w_toHeldS.ok k) .nil)) (by kernel_rfl) fun _ => opq_eq _
theorem w_toRooms.f_eq (k : Nat) (a_Free : List (List Int)) (a_Held : List (Int × Int)) : w_toRooms.f k a_Free a_Held =
 (w_toIntSS.f k a_Free).bind fun d0 =>
 (w_toHeldS.f k a_Held).bind fun d1 =>
 some ((d0, d1)) := (opq_eq _).trans (by kernel_rfl)
abbrev s_l1In.s : Sig := ⟨54, [], [.val, .val, .val], [.one (.int .i64), .one (.int .i64), .one (.int .i64)], [.one .bool], [], []⟩
noncomputable def s_l1In.C (k : Nat) : List (Nat × Ctr) := []
noncomputable def s_l1In.f (k : Nat) (n : Int) (lo : Int) (hi : Int) : Option Bool := opq (s_l1In.s.run Try.prog (s_l1In.C k) k (n, lo, hi))
theorem s_l1In.ok (k : Nat) : CtrOk Try.prog 54 (s_l1In.s.ctr (fun x => s_l1In.f k x.1 x.2.1 x.2.2)) := sig_ok s_l1In.s .nil (by kernel_rfl) fun _ => opq_eq _
theorem s_l1In.f_eq (k : Nat) (n : Int) (lo : Int) (hi : Int) : s_l1In.f k n lo hi =
 cn (decide (lo ≤ n))
 (some (decide (n ≤ hi)))
 (some false) := (opq_eq _).trans (by kernel_rfl)
abbrev s_l14Room.s : Sig := ⟨63, [], [.val, .val], [.one (.int .i64), .one (.int .i64)], [.one .bool], [], []⟩
noncomputable def s_l14Room.C (k : Nat) : List (Nat × Ctr) := [(54, s_l1In.s.ctr (fun x => s_l1In.f k x.1 x.2.1 x.2.2))]
noncomputable def s_l14Room.f (k : Nat) (at_ : Int) (order : Int) : Option Bool := opq (s_l14Room.s.run Try.prog (s_l14Room.C k) k (at_, order))
theorem s_l14Room.ok (k : Nat) : CtrOk Try.prog 63 (s_l14Room.s.ctr (fun x => s_l14Room.f k x.1 x.2)) := sig_ok s_l14Room.s (.cons (s_l1In.ok k) .nil) (by kernel_rfl) fun _ => opq_eq _
theorem s_l14Room.f_eq (k : Nat) (at_ : Int) (order : Int) : s_l14Room.f k at_ order =
 (s_l1In.f k order (0 : Int) (5 : Int)).bind fun d0 =>
 cn d0
 ((s_l1In.f k at_ (0 : Int) (31 : Int)).bind fun d1 =>
  cn d1
  (gd (decide ((0 : Int) ≤ IntKind.u64.wrap order))
   (gd (!decide (IntKind.i64.wrap ((1 : Int) * (2 : Int) ^ min (IntKind.u64.wrap order).toNat (64 : Nat)) = (0 : Int)))
    (some (decide (at_.tmod (IntKind.i64.wrap ((1 : Int) * (2 : Int) ^ min (IntKind.u64.wrap order).toNat (64 : Nat))) = (0 : Int))))))
  (some false))
 (some false) := (opq_eq _).trans (by kernel_rfl)
abbrev s_l1Has.s : Sig := ⟨64, [], [.val, .val], [.one (.row 3 (.int .i64)), .one (.int .i64)], [.one .bool], [], [(0, [(1,false),(7,true),(8,false),(9,false)])]⟩
noncomputable def s_l1Has.C (k : Nat) : List (Nat × Ctr) := []
noncomputable def s_l1Has.f (k : Nat) (l : List Int) (n : Int) : Option Bool := opq (s_l1Has.s.run Try.prog (s_l1Has.C k) k (l, n))
theorem s_l1Has.ok (k : Nat) : CtrOk Try.prog 64 (s_l1Has.s.ctr (fun x => s_l1Has.f k x.1 x.2)) := sig_ok s_l1Has.s .nil (by kernel_rfl) fun _ => opq_eq _
noncomputable def s_l1Has.l0 (k : Nat) (m : Nat) (n1 : Int) (t7 : List Int) (t8 : Int) (t9 : Int) : Option Bool := s_l1Has.s.head Try.prog (s_l1Has.C k) k 1 0 [] m [(1, AV.int IntKind.i64 n1), (7, AV.row 3 (Kind.int IntKind.i64) t7), (8, AV.int IntKind.i64 t8), (9, AV.int IntKind.i64 t9)] [Root.dead]
theorem s_l1Has.l0_z (k : Nat) (n1 : Int) (t7 : List Int) (t8 : Int) (t9 : Int) : s_l1Has.l0 k 0 n1 t7 t8 t9 = none := by kernel_rfl
theorem s_l1Has.l0_s (k : Nat) (m : Nat) (n1 : Int) (t7 : List Int) (t8 : Int) (t9 : Int) : s_l1Has.l0 k (m + 1) n1 t7 t8 t9 =
 cn (decide (t9 < t8))
 (gd (inb t9 t7.length)
  (cn (decide (getAt (0 : Int) t7 t9.toNat = n1))
   (some true)
   (s_l1Has.l0 k m n1 t7 t8 (IntKind.i64.wrap (t9 + (1 : Int))))))
 (some false) := by kernel_rfl
theorem s_l1Has.f_eq (k : Nat) (l : List Int) (n : Int) : s_l1Has.f k l n =
 s_l1Has.l0 k k n l ((↑l.length : Int)) ((0 : Int)) := (opq_eq _).trans (by kernel_rfl)
abbrev s_l14Cover.s : Sig := ⟨65, [], [.chg, .val, .val], [.one (.row 3 (.int .i64)), .one (.int .i64), .one (.int .i64)], [], [.rows 3 (.int .i64)], [(0, [(0,false),(1,false),(2,false),(6,false)])]⟩
noncomputable def s_l14Cover.C (k : Nat) : List (Nat × Ctr) := []
noncomputable def s_l14Cover.f (k : Nat) (seen : List Int) (at_ : Int) (order : Int) : Option (Unit × List Int) := opq (s_l14Cover.s.run Try.prog (s_l14Cover.C k) k (seen, at_, order))
theorem s_l14Cover.ok (k : Nat) : CtrOk Try.prog 65 (s_l14Cover.s.ctr (fun x => s_l14Cover.f k x.1 x.2.1 x.2.2)) := sig_ok s_l14Cover.s .nil (by kernel_rfl) fun _ => opq_eq _
noncomputable def s_l14Cover.l0 (k : Nat) (m : Nat) (at1 : Int) (order2 : Int) (k6 : Int) (h1 : List Int) : Option (Unit × List Int) := s_l14Cover.s.head Try.prog (s_l14Cover.C k) k 2 0 [] m [(0, AV.ref 1), (1, AV.int IntKind.i64 at1), (2, AV.int IntKind.i64 order2), (6, AV.int IntKind.i64 k6)] [Root.dead, Root.rows 3 (Kind.int IntKind.i64) h1]
theorem s_l14Cover.l0_z (k : Nat) (at1 : Int) (order2 : Int) (k6 : Int) (h1 : List Int) : s_l14Cover.l0 k 0 at1 order2 k6 h1 = none := by kernel_rfl
theorem s_l14Cover.l0_s (k : Nat) (m : Nat) (at1 : Int) (order2 : Int) (k6 : Int) (h1 : List Int) : s_l14Cover.l0 k (m + 1) at1 order2 k6 h1 =
 gd (decide ((0 : Int) ≤ IntKind.u64.wrap order2))
 (cn (decide (k6 < IntKind.i64.wrap (at1 + IntKind.i64.wrap ((1 : Int) * (2 : Int) ^ min (IntKind.u64.wrap order2).toNat (64 : Nat)))))
  (gd (inb k6 h1.length)
   (gd (inb k6 h1.length)
    (s_l14Cover.l0 k m at1 order2 (IntKind.i64.wrap (k6 + (1 : Int))) (h1.set k6.toNat (IntKind.i64.wrap (getAt (0 : Int) h1 k6.toNat + (1 : Int)))))))
  (some (((), h1)))) := by kernel_rfl
theorem s_l14Cover.f_eq (k : Nat) (seen : List Int) (at_ : Int) (order : Int) : s_l14Cover.f k seen at_ order =
 s_l14Cover.l0 k k at_ order at_ seen := (opq_eq _).trans (by kernel_rfl)
abbrev s_GoodRooms.s : Sig := ⟨24, [], [.val], [.agg [.row 30 (.sl 3 (.int .i64)), .row 49 (.pair (.int .i64) (.int .i64))]], [.one .bool], [], [(6, [(1,false),(101,true),(102,false),(103,false)]), (4, [(1,false),(3,true),(65,true),(66,false),(67,false)]), (2, [(1,false),(3,true),(4,false),(5,true),(14,true),(15,false),(16,false),(21,true),(22,false),(23,false)]), (0, [(1,false),(3,true),(14,true),(15,false),(16,false)])]⟩
noncomputable def s_GoodRooms.C (k : Nat) : List (Nat × Ctr) := [(63, s_l14Room.s.ctr (fun x => s_l14Room.f k x.1 x.2)), (64, s_l1Has.s.ctr (fun x => s_l1Has.f k x.1 x.2)), (65, s_l14Cover.s.ctr (fun x => s_l14Cover.f k x.1 x.2.1 x.2.2))]
noncomputable def s_GoodRooms.f (k : Nat) (r_Free : List (List Int)) (r_Held : List (Int × Int)) : Option Bool := opq (s_GoodRooms.s.run Try.prog (s_GoodRooms.C k) k (r_Free, r_Held))
theorem s_GoodRooms.ok (k : Nat) : CtrOk Try.prog 24 (s_GoodRooms.s.ctr (fun x => s_GoodRooms.f k x.1 x.2)) := sig_ok s_GoodRooms.s (.cons (s_l14Room.ok k) (.cons (s_l1Has.ok k) (.cons (s_l14Cover.ok k) .nil))) (by kernel_rfl) fun _ => opq_eq _
noncomputable def s_GoodRooms.l0 (k : Nat) (m : Nat) (t14 : List (List Int)) (t15 : Int) (t16 : Int) (h1 : List (List Int)) (h1_ : List (Int × Int)) (h2 : List Int) : Option Bool := s_GoodRooms.s.head Try.prog (s_GoodRooms.C k) k 1 0 [] m [(1, AV.ptr 1 0 0), (3, AV.ref 2), (14, AV.row 30 (Kind.sl 3 (Kind.int IntKind.i64)) t14), (15, AV.int IntKind.i64 t15), (16, AV.int IntKind.i64 t16)] [Root.dead, Root.box 25 [AV.row 30 (Kind.sl 3 (Kind.int IntKind.i64)) h1, AV.row 49 ((Kind.int IntKind.i64).pair (Kind.int IntKind.i64)) h1_], Root.rows 3 (Kind.int IntKind.i64) h2]
noncomputable def s_GoodRooms.l4 (k : Nat) (m : Nat) (t65 : List (Int × Int)) (t66 : Int) (t67 : Int) (h1 : List (List Int)) (h1_ : List (Int × Int)) (h2 : List Int) : Option Bool := s_GoodRooms.s.head Try.prog (s_GoodRooms.C k) k 1 4 [] m [(1, AV.ptr 1 0 0), (3, AV.ref 2), (65, AV.row 49 ((Kind.int IntKind.i64).pair (Kind.int IntKind.i64)) t65), (66, AV.int IntKind.i64 t66), (67, AV.int IntKind.i64 t67)] [Root.dead, Root.box 25 [AV.row 30 (Kind.sl 3 (Kind.int IntKind.i64)) h1, AV.row 49 ((Kind.int IntKind.i64).pair (Kind.int IntKind.i64)) h1_], Root.rows 3 (Kind.int IntKind.i64) h2]
noncomputable def s_GoodRooms.l2 (k : Nat) (n0 : Nat) (m : Nat) (order4 : Int) (l5 : List Int) (t14 : List (List Int)) (t15 : Int) (t16 : Int) (t21 : List Int) (t22 : Int) (t23 : Int) (h1 : List (List Int)) (h1_ : List (Int × Int)) (h2 : List Int) : Option Bool := s_GoodRooms.s.head Try.prog (s_GoodRooms.C k) k 1 2 [n0] m [(1, AV.ptr 1 0 0), (3, AV.ref 2), (4, AV.int IntKind.i64 order4), (5, AV.row 3 (Kind.int IntKind.i64) l5), (14, AV.row 30 (Kind.sl 3 (Kind.int IntKind.i64)) t14), (15, AV.int IntKind.i64 t15), (16, AV.int IntKind.i64 t16), (21, AV.row 3 (Kind.int IntKind.i64) t21), (22, AV.int IntKind.i64 t22), (23, AV.int IntKind.i64 t23)] [Root.dead, Root.box 25 [AV.row 30 (Kind.sl 3 (Kind.int IntKind.i64)) h1, AV.row 49 ((Kind.int IntKind.i64).pair (Kind.int IntKind.i64)) h1_], Root.rows 3 (Kind.int IntKind.i64) h2]
noncomputable def s_GoodRooms.l6 (k : Nat) (m : Nat) (t102 : Int) (t103 : Int) (h1 : List (List Int)) (h1_ : List (Int × Int)) (h2 : List Int) : Option Bool := s_GoodRooms.s.head Try.prog (s_GoodRooms.C k) k 1 6 [] m [(1, AV.ptr 1 0 0), (101, AV.ref 2), (102, AV.int IntKind.i64 t102), (103, AV.int IntKind.i64 t103)] [Root.dead, Root.box 25 [AV.row 30 (Kind.sl 3 (Kind.int IntKind.i64)) h1, AV.row 49 ((Kind.int IntKind.i64).pair (Kind.int IntKind.i64)) h1_], Root.rows 3 (Kind.int IntKind.i64) h2]
theorem s_GoodRooms.l0_z (k : Nat) (t14 : List (List Int)) (t15 : Int) (t16 : Int) (h1 : List (List Int)) (h1_ : List (Int × Int)) (h2 : List Int) : s_GoodRooms.l0 k 0 t14 t15 t16 h1 h1_ h2 = none := by kernel_rfl
theorem s_GoodRooms.l0_s (k : Nat) (m : Nat) (t14 : List (List Int)) (t15 : Int) (t16 : Int) (h1 : List (List Int)) (h1_ : List (Int × Int)) (h2 : List Int) : s_GoodRooms.l0 k (m + 1) t14 t15 t16 h1 h1_ h2 =
 cn (decide (t16 < t15))
 (gd (inb t16 t14.length)
  (s_GoodRooms.l2 k m k t16 (getAt [] t14 t16.toNat) t14 t15 t16 (getAt [] t14 t16.toNat) ((↑(getAt [] t14 t16.toNat).length : Int)) ((0 : Int)) h1 h1_ h2))
 (s_GoodRooms.l4 k k h1_ ((↑h1_.length : Int)) ((0 : Int)) h1 h1_ h2) := by kernel_rfl
theorem s_GoodRooms.l4_z (k : Nat) (t65 : List (Int × Int)) (t66 : Int) (t67 : Int) (h1 : List (List Int)) (h1_ : List (Int × Int)) (h2 : List Int) : s_GoodRooms.l4 k 0 t65 t66 t67 h1 h1_ h2 = none := by kernel_rfl
theorem s_GoodRooms.l4_s (k : Nat) (m : Nat) (t65 : List (Int × Int)) (t66 : Int) (t67 : Int) (h1 : List (List Int)) (h1_ : List (Int × Int)) (h2 : List Int) : s_GoodRooms.l4 k (m + 1) t65 t66 t67 h1 h1_ h2 =
 cn (decide (t67 < t66))
 (gd (inb t67 t65.length)
  ((s_l14Room.f k (getAt ((0 : Int), (0 : Int)) t65 t67.toNat).fst (getAt ((0 : Int), (0 : Int)) t65 t67.toNat).snd).bind fun d0 =>
   cn (!d0)
   (some false)
   (cn (decide ((0 : Int) < t67))
    (gd (inb (IntKind.i64.wrap (t67 - (1 : Int))) h1_.length)
     (cn (decide ((getAt ((0 : Int), (0 : Int)) t65 t67.toNat).fst ≤ (getAt ((0 : Int), (0 : Int)) h1_ (IntKind.i64.wrap (t67 - (1 : Int))).toNat).fst))
      (some false)
      ((s_l14Cover.f k h2 (getAt ((0 : Int), (0 : Int)) t65 t67.toNat).fst (getAt ((0 : Int), (0 : Int)) t65 t67.toNat).snd).bind fun d1 =>
       s_GoodRooms.l4 k m t65 t66 (IntKind.i64.wrap (t67 + (1 : Int))) h1 h1_ d1.snd)))
    ((s_l14Cover.f k h2 (getAt ((0 : Int), (0 : Int)) t65 t67.toNat).fst (getAt ((0 : Int), (0 : Int)) t65 t67.toNat).snd).bind fun d1 =>
     s_GoodRooms.l4 k m t65 t66 (IntKind.i64.wrap (t67 + (1 : Int))) h1 h1_ d1.snd))))
 (s_GoodRooms.l6 k k ((↑h2.length : Int)) ((0 : Int)) h1 h1_ h2) := by kernel_rfl
theorem s_GoodRooms.l2_z (k : Nat) (n0 : Nat) (order4 : Int) (l5 : List Int) (t14 : List (List Int)) (t15 : Int) (t16 : Int) (t21 : List Int) (t22 : Int) (t23 : Int) (h1 : List (List Int)) (h1_ : List (Int × Int)) (h2 : List Int) : s_GoodRooms.l2 k n0 0 order4 l5 t14 t15 t16 t21 t22 t23 h1 h1_ h2 = none := by kernel_rfl
theorem s_GoodRooms.l2_s (k : Nat) (n0 : Nat) (m : Nat) (order4 : Int) (l5 : List Int) (t14 : List (List Int)) (t15 : Int) (t16 : Int) (t21 : List Int) (t22 : Int) (t23 : Int) (h1 : List (List Int)) (h1_ : List (Int × Int)) (h2 : List Int) : s_GoodRooms.l2 k n0 (m + 1) order4 l5 t14 t15 t16 t21 t22 t23 h1 h1_ h2 =
 cn (decide (t23 < t22))
 (gd (inb t23 t21.length)
  ((s_l14Room.f k (getAt (0 : Int) t21 t23.toNat) order4).bind fun d1 =>
   cn (!d1)
   (some false)
   (cn (decide ((0 : Int) < t23))
    (gd (inb (IntKind.i64.wrap (t23 - (1 : Int))) l5.length)
     (cn (decide (getAt (0 : Int) t21 t23.toNat ≤ getAt (0 : Int) l5 (IntKind.i64.wrap (t23 - (1 : Int))).toNat))
      (some false)
      (cn (decide (order4 < (5 : Int)))
       (gd (decide ((0 : Int) ≤ IntKind.u64.wrap order4))
        ((s_l1Has.f k l5 (IntKind.i64.wrap (↑(BitVec.ofInt (64 : Nat) (getAt (0 : Int) t21 t23.toNat) ^^^ BitVec.ofInt (64 : Nat) (IntKind.i64.wrap ((1 : Int) * (2 : Int) ^ min (IntKind.u64.wrap order4).toNat (64 : Nat)))).toNat : Int))).bind fun d2 =>
         cn d2
         (some false)
         ((s_l14Cover.f k h2 (getAt (0 : Int) t21 t23.toNat) order4).bind fun d3 =>
          s_GoodRooms.l2 k n0 m order4 l5 t14 t15 t16 t21 t22 (IntKind.i64.wrap (t23 + (1 : Int))) h1 h1_ d3.snd)))
       ((s_l14Cover.f k h2 (getAt (0 : Int) t21 t23.toNat) order4).bind fun d2 =>
        s_GoodRooms.l2 k n0 m order4 l5 t14 t15 t16 t21 t22 (IntKind.i64.wrap (t23 + (1 : Int))) h1 h1_ d2.snd))))
    (cn (decide (order4 < (5 : Int)))
     (gd (decide ((0 : Int) ≤ IntKind.u64.wrap order4))
      ((s_l1Has.f k l5 (IntKind.i64.wrap (↑(BitVec.ofInt (64 : Nat) (getAt (0 : Int) t21 t23.toNat) ^^^ BitVec.ofInt (64 : Nat) (IntKind.i64.wrap ((1 : Int) * (2 : Int) ^ min (IntKind.u64.wrap order4).toNat (64 : Nat)))).toNat : Int))).bind fun d2 =>
       cn d2
       (some false)
       ((s_l14Cover.f k h2 (getAt (0 : Int) t21 t23.toNat) order4).bind fun d3 =>
        s_GoodRooms.l2 k n0 m order4 l5 t14 t15 t16 t21 t22 (IntKind.i64.wrap (t23 + (1 : Int))) h1 h1_ d3.snd)))
     ((s_l14Cover.f k h2 (getAt (0 : Int) t21 t23.toNat) order4).bind fun d2 =>
      s_GoodRooms.l2 k n0 m order4 l5 t14 t15 t16 t21 t22 (IntKind.i64.wrap (t23 + (1 : Int))) h1 h1_ d2.snd)))))
 (s_GoodRooms.l0 k n0 t14 t15 (IntKind.i64.wrap (t16 + (1 : Int))) h1 h1_ h2) := by kernel_rfl
theorem s_GoodRooms.l6_z (k : Nat) (t102 : Int) (t103 : Int) (h1 : List (List Int)) (h1_ : List (Int × Int)) (h2 : List Int) : s_GoodRooms.l6 k 0 t102 t103 h1 h1_ h2 = none := by kernel_rfl
theorem s_GoodRooms.l6_s (k : Nat) (m : Nat) (t102 : Int) (t103 : Int) (h1 : List (List Int)) (h1_ : List (Int × Int)) (h2 : List Int) : s_GoodRooms.l6 k (m + 1) t102 t103 h1 h1_ h2 =
 cn (decide (t103 < t102))
 (gd (inb t103 h2.length)
  (cn (!decide (getAt (0 : Int) h2 t103.toNat = (1 : Int)))
   (some false)
   (s_GoodRooms.l6 k m t102 (IntKind.i64.wrap (t103 + (1 : Int))) h1 h1_ h2)))
 (some (decide ((↑h1.length : Int) = (6 : Int)))) := by kernel_rfl
theorem s_GoodRooms.f_eq (k : Nat) (r_Free : List (List Int)) (r_Held : List (Int × Int)) : s_GoodRooms.f k r_Free r_Held =
 s_GoodRooms.l0 k k r_Free ((↑r_Free.length : Int)) ((0 : Int)) r_Free r_Held (List.replicate (32 : Nat) (0 : Int)) := (opq_eq _).trans (by kernel_rfl)
abbrev s_MostFree.s : Sig := ⟨29, [], [.val], [.agg [.row 30 (.sl 3 (.int .i64)), .row 49 (.pair (.int .i64) (.int .i64))]], [.one (.int .i64), .one .bool], [], [(0, [(4,false),(11,true),(12,false),(13,false)])]⟩
noncomputable def s_MostFree.C (k : Nat) : List (Nat × Ctr) := [(24, s_GoodRooms.s.ctr (fun x => s_GoodRooms.f k x.1 x.2))]
noncomputable def s_MostFree.f (k : Nat) (r_Free : List (List Int)) (r_Held : List (Int × Int)) : Option (Int × Bool) := opq (s_MostFree.s.run Try.prog (s_MostFree.C k) k (r_Free, r_Held))
theorem s_MostFree.ok (k : Nat) : CtrOk Try.prog 29 (s_MostFree.s.ctr (fun x => s_MostFree.f k x.1 x.2)) := sig_ok s_MostFree.s (.cons (s_GoodRooms.ok k) .nil) (by kernel_rfl) fun _ => opq_eq _
noncomputable def s_MostFree.l0 (k : Nat) (m : Nat) (most4 : Int) (t11 : List (List Int)) (t12 : Int) (t13 : Int) : Option (Int × Bool) := s_MostFree.s.head Try.prog (s_MostFree.C k) k 1 0 [] m [(4, AV.int IntKind.i64 most4), (11, AV.row 30 (Kind.sl 3 (Kind.int IntKind.i64)) t11), (12, AV.int IntKind.i64 t12), (13, AV.int IntKind.i64 t13)] [Root.dead]
theorem s_MostFree.l0_z (k : Nat) (most4 : Int) (t11 : List (List Int)) (t12 : Int) (t13 : Int) : s_MostFree.l0 k 0 most4 t11 t12 t13 = none := by kernel_rfl
theorem s_MostFree.l0_s (k : Nat) (m : Nat) (most4 : Int) (t11 : List (List Int)) (t12 : Int) (t13 : Int) : s_MostFree.l0 k (m + 1) most4 t11 t12 t13 =
 cn (decide (t13 < t12))
 (gd (inb t13 t11.length)
  (cn (decide ((0 : Int) < (↑(getAt [] t11 t13.toNat).length : Int)))
   (s_MostFree.l0 k m t13 t11 t12 (IntKind.i64.wrap (t13 + (1 : Int))))
   (s_MostFree.l0 k m most4 t11 t12 (IntKind.i64.wrap (t13 + (1 : Int))))))
 (some ((most4, true))) := by kernel_rfl
theorem s_MostFree.f_eq (k : Nat) (r_Free : List (List Int)) (r_Held : List (Int × Int)) : s_MostFree.f k r_Free r_Held =
 (s_GoodRooms.f k r_Free r_Held).bind fun d0 =>
 cn (!d0)
 (some (((0 : Int), false)))
 (s_MostFree.l0 k k ((-1 : Int)) r_Free ((↑r_Free.length : Int)) ((0 : Int))) := (opq_eq _).trans (by kernel_rfl)
abbrev b_Index_int.s : Sig := ⟨96, [], [.val, .val], [.one (.row 3 (.int .i64)), .one (.int .i64)], [.one (.int .i64)], [], [(0, [(0,false),(1,false),(7,false),(8,false)])]⟩
noncomputable def b_Index_int.C (k : Nat) : List (Nat × Ctr) := []
noncomputable def b_Index_int.f (k : Nat) (s : List Int) (v : Int) : Option Int := opq (b_Index_int.s.run Try.prog (b_Index_int.C k) k (s, v))
theorem b_Index_int.ok (k : Nat) : CtrOk Try.prog 96 (b_Index_int.s.ctr (fun x => b_Index_int.f k x.1 x.2)) := sig_ok b_Index_int.s .nil (by kernel_rfl) fun _ => opq_eq _
noncomputable def b_Index_int.l0 (k : Nat) (m : Nat) (s0 : List Int) (v1 : Int) (t7 : Int) (t8 : Int) : Option Int := b_Index_int.s.head Try.prog (b_Index_int.C k) k 1 0 [] m [(0, AV.row 3 (Kind.int IntKind.i64) s0), (1, AV.int IntKind.i64 v1), (7, AV.int IntKind.i64 t7), (8, AV.int IntKind.i64 t8)] [Root.dead]
theorem b_Index_int.l0_z (k : Nat) (s0 : List Int) (v1 : Int) (t7 : Int) (t8 : Int) : b_Index_int.l0 k 0 s0 v1 t7 t8 = none := by kernel_rfl
theorem b_Index_int.l0_s (k : Nat) (m : Nat) (s0 : List Int) (v1 : Int) (t7 : Int) (t8 : Int) : b_Index_int.l0 k (m + 1) s0 v1 t7 t8 =
 cn (decide (t8 < t7))
 (gd (inb t8 s0.length)
  (cn (decide (v1 = getAt (0 : Int) s0 t8.toNat))
   (some t8)
   (b_Index_int.l0 k m s0 v1 t7 (IntKind.i64.wrap (t8 + (1 : Int))))))
 (some ((-1 : Int))) := by kernel_rfl
theorem b_Index_int.f_eq (k : Nat) (s : List Int) (v : Int) : b_Index_int.f k s v =
 b_Index_int.l0 k k s v ((↑s.length : Int)) ((0 : Int)) := (opq_eq _).trans (by kernel_rfl)
abbrev b_Contains_int.s : Sig := ⟨68, [], [.val, .val], [.one (.row 3 (.int .i64)), .one (.int .i64)], [.one .bool], [], []⟩
noncomputable def b_Contains_int.C (k : Nat) : List (Nat × Ctr) := [(96, b_Index_int.s.ctr (fun x => b_Index_int.f k x.1 x.2))]
noncomputable def b_Contains_int.f (k : Nat) (s : List Int) (v : Int) : Option Bool := opq (b_Contains_int.s.run Try.prog (b_Contains_int.C k) k (s, v))
theorem b_Contains_int.ok (k : Nat) : CtrOk Try.prog 68 (b_Contains_int.s.ctr (fun x => b_Contains_int.f k x.1 x.2)) := sig_ok b_Contains_int.s (.cons (b_Index_int.ok k) .nil) (by kernel_rfl) fun _ => opq_eq _
theorem b_Contains_int.f_eq (k : Nat) (s : List Int) (v : Int) : b_Contains_int.f k s v =
 (b_Index_int.f k s v).bind fun d0 =>
 some (decide ((0 : Int) ≤ d0)) := (opq_eq _).trans (by kernel_rfl)
abbrev b_SortFunc_Held__i_GoodRooms_1.s : Sig := ⟨69, [], [.chg, .val], [.one (.row 49 (.pair (.int .i64) (.int .i64))), .one (.fn 70)], [], [.rows 49 (.pair (.int .i64) (.int .i64))], []⟩
noncomputable def b_SortFunc_Held__i_GoodRooms_1.f (k : Nat) (x : List (Int × Int)) : Option (Unit × (List (Int × Int))) := sortF x
theorem b_SortFunc_Held__i_GoodRooms_1.ok (k : Nat) : CtrOk Try.prog 69 (b_SortFunc_Held__i_GoodRooms_1.s.ctr fun x => b_SortFunc_Held__i_GoodRooms_1.f k x.1) := sort_ctr
abbrev i_within.s : Sig := ⟨75, [], [.val, .val, .val], [.one (.int .i64), .one (.int .i64), .one (.int .i64)], [.one .bool], [], []⟩
noncomputable def i_within.C (k : Nat) : List (Nat × Ctr) := []
noncomputable def i_within.f (k : Nat) (n : Int) (low : Int) (high : Int) : Option Bool := opq (i_within.s.run Try.prog (i_within.C k) k (n, low, high))
theorem i_within.ok (k : Nat) : CtrOk Try.prog 75 (i_within.s.ctr (fun x => i_within.f k x.1 x.2.1 x.2.2)) := sig_ok i_within.s .nil (by kernel_rfl) fun _ => opq_eq _
theorem i_within.f_eq (k : Nat) (n : Int) (low : Int) (high : Int) : i_within.f k n low high =
 cn (decide (low ≤ n))
 (some (decide (n ≤ high)))
 (some false) := (opq_eq _).trans (by kernel_rfl)
abbrev i_isRoom.s : Sig := ⟨72, [], [.val, .val], [.one (.int .i64), .one (.int .i64)], [.one .bool], [], []⟩
noncomputable def i_isRoom.C (k : Nat) : List (Nat × Ctr) := [(75, i_within.s.ctr (fun x => i_within.f k x.1 x.2.1 x.2.2))]
noncomputable def i_isRoom.f (k : Nat) (at_ : Int) (order : Int) : Option Bool := opq (i_isRoom.s.run Try.prog (i_isRoom.C k) k (at_, order))
theorem i_isRoom.ok (k : Nat) : CtrOk Try.prog 72 (i_isRoom.s.ctr (fun x => i_isRoom.f k x.1 x.2)) := sig_ok i_isRoom.s (.cons (i_within.ok k) .nil) (by kernel_rfl) fun _ => opq_eq _
theorem i_isRoom.f_eq (k : Nat) (at_ : Int) (order : Int) : i_isRoom.f k at_ order =
 (i_within.f k order (0 : Int) (5 : Int)).bind fun d0 =>
 cn d0
 ((i_within.f k at_ (0 : Int) (31 : Int)).bind fun d1 =>
  cn d1
  (gd (decide ((0 : Int) ≤ order))
   (gd (!decide (IntKind.i64.wrap ((1 : Int) * (2 : Int) ^ min order.toNat (64 : Nat)) = (0 : Int)))
    (some (decide (at_.tmod (IntKind.i64.wrap ((1 : Int) * (2 : Int) ^ min order.toNat (64 : Nat))) = (0 : Int))))))
  (some false))
 (some false) := (opq_eq _).trans (by kernel_rfl)
abbrev i_GoodRooms.s : Sig := ⟨26, [], [.val], [.agg [.row 30 (.sl 3 (.int .i64)), .row 49 (.pair (.int .i64) (.int .i64))]], [.one .bool], [], [(6, [(10,false),(93,true),(94,false),(95,false)]), (4, [(1,false),(3,true),(65,true),(66,false),(67,false)]), (2, [(1,false),(3,true),(4,false),(5,true),(19,true),(20,false),(21,false),(26,true),(27,false),(28,false)]), (0, [(1,false),(3,true),(19,true),(20,false),(21,false)])]⟩
noncomputable def i_GoodRooms.C (k : Nat) : List (Nat × Ctr) := [(68, b_Contains_int.s.ctr (fun x => b_Contains_int.f k x.1 x.2)), (69, b_SortFunc_Held__i_GoodRooms_1.s.ctr (fun x => b_SortFunc_Held__i_GoodRooms_1.f k x.1)), (72, i_isRoom.s.ctr (fun x => i_isRoom.f k x.1 x.2))]
noncomputable def i_GoodRooms.f (k : Nat) (r_Free : List (List Int)) (r_Held : List (Int × Int)) : Option Bool := opq (i_GoodRooms.s.run Try.prog (i_GoodRooms.C k) k (r_Free, r_Held))
theorem i_GoodRooms.ok (k : Nat) : CtrOk Try.prog 26 (i_GoodRooms.s.ctr (fun x => i_GoodRooms.f k x.1 x.2)) := sig_ok i_GoodRooms.s (.cons (b_Contains_int.ok k) (.cons (b_SortFunc_Held__i_GoodRooms_1.ok k) (.cons (i_isRoom.ok k) .nil))) (by kernel_rfl) fun _ => opq_eq _
noncomputable def i_GoodRooms.l0 (k : Nat) (m : Nat) (t19 : List (List Int)) (t20 : Int) (t21 : Int) (h1 : List (List Int)) (h1_ : List (Int × Int)) (h2 : List (Int × Int)) : Option Bool := i_GoodRooms.s.head Try.prog (i_GoodRooms.C k) k 1 0 [] m [(1, AV.ptr 1 0 0), (3, AV.ref 2), (19, AV.row 30 (Kind.sl 3 (Kind.int IntKind.i64)) t19), (20, AV.int IntKind.i64 t20), (21, AV.int IntKind.i64 t21)] [Root.dead, Root.box 25 [AV.row 30 (Kind.sl 3 (Kind.int IntKind.i64)) h1, AV.row 49 ((Kind.int IntKind.i64).pair (Kind.int IntKind.i64)) h1_], Root.rows 49 ((Kind.int IntKind.i64).pair (Kind.int IntKind.i64)) h2]
noncomputable def i_GoodRooms.l4 (k : Nat) (m : Nat) (t65 : List (Int × Int)) (t66 : Int) (t67 : Int) (h1 : List (List Int)) (h1_ : List (Int × Int)) (h2 : List (Int × Int)) : Option Bool := i_GoodRooms.s.head Try.prog (i_GoodRooms.C k) k 1 4 [] m [(1, AV.ptr 1 0 0), (3, AV.ref 2), (65, AV.row 49 ((Kind.int IntKind.i64).pair (Kind.int IntKind.i64)) t65), (66, AV.int IntKind.i64 t66), (67, AV.int IntKind.i64 t67)] [Root.dead, Root.box 25 [AV.row 30 (Kind.sl 3 (Kind.int IntKind.i64)) h1, AV.row 49 ((Kind.int IntKind.i64).pair (Kind.int IntKind.i64)) h1_], Root.rows 49 ((Kind.int IntKind.i64).pair (Kind.int IntKind.i64)) h2]
noncomputable def i_GoodRooms.l2 (k : Nat) (n0 : Nat) (m : Nat) (order4 : Int) (list5 : List Int) (t19 : List (List Int)) (t20 : Int) (t21 : Int) (t26 : List Int) (t27 : Int) (t28 : Int) (h1 : List (List Int)) (h1_ : List (Int × Int)) (h2 : List (Int × Int)) : Option Bool := i_GoodRooms.s.head Try.prog (i_GoodRooms.C k) k 1 2 [n0] m [(1, AV.ptr 1 0 0), (3, AV.ref 2), (4, AV.int IntKind.i64 order4), (5, AV.row 3 (Kind.int IntKind.i64) list5), (19, AV.row 30 (Kind.sl 3 (Kind.int IntKind.i64)) t19), (20, AV.int IntKind.i64 t20), (21, AV.int IntKind.i64 t21), (26, AV.row 3 (Kind.int IntKind.i64) t26), (27, AV.int IntKind.i64 t27), (28, AV.int IntKind.i64 t28)] [Root.dead, Root.box 25 [AV.row 30 (Kind.sl 3 (Kind.int IntKind.i64)) h1, AV.row 49 ((Kind.int IntKind.i64).pair (Kind.int IntKind.i64)) h1_], Root.rows 49 ((Kind.int IntKind.i64).pair (Kind.int IntKind.i64)) h2]
noncomputable def i_GoodRooms.l6 (k : Nat) (m : Nat) (at10 : Int) (t94 : Int) (t95 : Int) (h1 : List (Int × Int)) : Option Bool := i_GoodRooms.s.head Try.prog (i_GoodRooms.C k) k 1 6 [] m [(10, AV.int IntKind.i64 at10), (93, AV.ref 1), (94, AV.int IntKind.i64 t94), (95, AV.int IntKind.i64 t95)] [Root.dead, Root.rows 49 ((Kind.int IntKind.i64).pair (Kind.int IntKind.i64)) h1]
theorem i_GoodRooms.l0_z (k : Nat) (t19 : List (List Int)) (t20 : Int) (t21 : Int) (h1 : List (List Int)) (h1_ : List (Int × Int)) (h2 : List (Int × Int)) : i_GoodRooms.l0 k 0 t19 t20 t21 h1 h1_ h2 = none := by kernel_rfl
theorem i_GoodRooms.l0_s (k : Nat) (m : Nat) (t19 : List (List Int)) (t20 : Int) (t21 : Int) (h1 : List (List Int)) (h1_ : List (Int × Int)) (h2 : List (Int × Int)) : i_GoodRooms.l0 k (m + 1) t19 t20 t21 h1 h1_ h2 =
 cn (decide (t21 < t20))
 (gd (inb t21 t19.length)
  (i_GoodRooms.l2 k m k t21 (getAt [] t19 t21.toNat) t19 t20 t21 (getAt [] t19 t21.toNat) ((↑(getAt [] t19 t21.toNat).length : Int)) ((0 : Int)) h1 h1_ h2))
 (i_GoodRooms.l4 k k h1_ ((↑h1_.length : Int)) ((0 : Int)) h1 h1_ h2) := by kernel_rfl
theorem i_GoodRooms.l4_z (k : Nat) (t65 : List (Int × Int)) (t66 : Int) (t67 : Int) (h1 : List (List Int)) (h1_ : List (Int × Int)) (h2 : List (Int × Int)) : i_GoodRooms.l4 k 0 t65 t66 t67 h1 h1_ h2 = none := by kernel_rfl
theorem i_GoodRooms.l4_s (k : Nat) (m : Nat) (t65 : List (Int × Int)) (t66 : Int) (t67 : Int) (h1 : List (List Int)) (h1_ : List (Int × Int)) (h2 : List (Int × Int)) : i_GoodRooms.l4 k (m + 1) t65 t66 t67 h1 h1_ h2 =
 cn (decide (t67 < t66))
 (gd (inb t67 t65.length)
  (cn (decide ((0 : Int) < t67))
   (gd (inb (IntKind.i64.wrap (t67 - (1 : Int))) h1_.length)
    (cn (decide ((getAt ((0 : Int), (0 : Int)) t65 t67.toNat).fst ≤ (getAt ((0 : Int), (0 : Int)) h1_ (IntKind.i64.wrap (t67 - (1 : Int))).toNat).fst))
     (some false)
     (gd (appOk (h2.length + (1 : Nat)) (Try.prog.bytesOf (49 : Nat)))
      (i_GoodRooms.l4 k m t65 t66 (IntKind.i64.wrap (t67 + (1 : Int))) h1 h1_ (h2 ++ [((getAt ((0 : Int), (0 : Int)) t65 t67.toNat).fst, (getAt ((0 : Int), (0 : Int)) t65 t67.toNat).snd)])))))
   (gd (appOk (h2.length + (1 : Nat)) (Try.prog.bytesOf (49 : Nat)))
    (i_GoodRooms.l4 k m t65 t66 (IntKind.i64.wrap (t67 + (1 : Int))) h1 h1_ (h2 ++ [((getAt ((0 : Int), (0 : Int)) t65 t67.toNat).fst, (getAt ((0 : Int), (0 : Int)) t65 t67.toNat).snd)])))))
 ((b_SortFunc_Held__i_GoodRooms_1.f k h2).bind fun d0 =>
  i_GoodRooms.l6 k k ((0 : Int)) ((↑(List.length d0.snd) : Int)) ((0 : Int)) d0.snd) := by kernel_rfl
theorem i_GoodRooms.l2_z (k : Nat) (n0 : Nat) (order4 : Int) (list5 : List Int) (t19 : List (List Int)) (t20 : Int) (t21 : Int) (t26 : List Int) (t27 : Int) (t28 : Int) (h1 : List (List Int)) (h1_ : List (Int × Int)) (h2 : List (Int × Int)) : i_GoodRooms.l2 k n0 0 order4 list5 t19 t20 t21 t26 t27 t28 h1 h1_ h2 = none := by kernel_rfl
theorem i_GoodRooms.l2_s (k : Nat) (n0 : Nat) (m : Nat) (order4 : Int) (list5 : List Int) (t19 : List (List Int)) (t20 : Int) (t21 : Int) (t26 : List Int) (t27 : Int) (t28 : Int) (h1 : List (List Int)) (h1_ : List (Int × Int)) (h2 : List (Int × Int)) : i_GoodRooms.l2 k n0 (m + 1) order4 list5 t19 t20 t21 t26 t27 t28 h1 h1_ h2 =
 cn (decide (t28 < t27))
 (gd (inb t28 t26.length)
  (cn (decide ((0 : Int) < t28))
   (gd (inb (IntKind.i64.wrap (t28 - (1 : Int))) list5.length)
    (cn (decide (getAt (0 : Int) t26 t28.toNat ≤ getAt (0 : Int) list5 (IntKind.i64.wrap (t28 - (1 : Int))).toNat))
     (some false)
     (cn (decide (order4 < (5 : Int)))
      (gd (decide ((0 : Int) ≤ order4))
       ((b_Contains_int.f k list5 (IntKind.i64.wrap (↑(BitVec.ofInt (64 : Nat) (getAt (0 : Int) t26 t28.toNat) ^^^ BitVec.ofInt (64 : Nat) (IntKind.i64.wrap ((1 : Int) * (2 : Int) ^ min order4.toNat (64 : Nat)))).toNat : Int))).bind fun d0 =>
        cn d0
        (some false)
        (gd (appOk (h2.length + (1 : Nat)) (Try.prog.bytesOf (49 : Nat)))
         (i_GoodRooms.l2 k n0 m order4 list5 t19 t20 t21 t26 t27 (IntKind.i64.wrap (t28 + (1 : Int))) h1 h1_ (h2 ++ [(getAt (0 : Int) t26 t28.toNat, order4)])))))
      (gd (appOk (h2.length + (1 : Nat)) (Try.prog.bytesOf (49 : Nat)))
       (i_GoodRooms.l2 k n0 m order4 list5 t19 t20 t21 t26 t27 (IntKind.i64.wrap (t28 + (1 : Int))) h1 h1_ (h2 ++ [(getAt (0 : Int) t26 t28.toNat, order4)]))))))
   (cn (decide (order4 < (5 : Int)))
    (gd (decide ((0 : Int) ≤ order4))
     ((b_Contains_int.f k list5 (IntKind.i64.wrap (↑(BitVec.ofInt (64 : Nat) (getAt (0 : Int) t26 t28.toNat) ^^^ BitVec.ofInt (64 : Nat) (IntKind.i64.wrap ((1 : Int) * (2 : Int) ^ min order4.toNat (64 : Nat)))).toNat : Int))).bind fun d0 =>
      cn d0
      (some false)
      (gd (appOk (h2.length + (1 : Nat)) (Try.prog.bytesOf (49 : Nat)))
       (i_GoodRooms.l2 k n0 m order4 list5 t19 t20 t21 t26 t27 (IntKind.i64.wrap (t28 + (1 : Int))) h1 h1_ (h2 ++ [(getAt (0 : Int) t26 t28.toNat, order4)])))))
    (gd (appOk (h2.length + (1 : Nat)) (Try.prog.bytesOf (49 : Nat)))
     (i_GoodRooms.l2 k n0 m order4 list5 t19 t20 t21 t26 t27 (IntKind.i64.wrap (t28 + (1 : Int))) h1 h1_ (h2 ++ [(getAt (0 : Int) t26 t28.toNat, order4)]))))))
 (i_GoodRooms.l0 k n0 t19 t20 (IntKind.i64.wrap (t21 + (1 : Int))) h1 h1_ h2) := by kernel_rfl
theorem i_GoodRooms.l6_z (k : Nat) (at10 : Int) (t94 : Int) (t95 : Int) (h1 : List (Int × Int)) : i_GoodRooms.l6 k 0 at10 t94 t95 h1 = none := by kernel_rfl
theorem i_GoodRooms.l6_s (k : Nat) (m : Nat) (at10 : Int) (t94 : Int) (t95 : Int) (h1 : List (Int × Int)) : i_GoodRooms.l6 k (m + 1) at10 t94 t95 h1 =
 cn (decide (t95 < t94))
 (gd (inb t95 h1.length)
  ((i_isRoom.f k (getAt ((0 : Int), (0 : Int)) h1 t95.toNat).fst (getAt ((0 : Int), (0 : Int)) h1 t95.toNat).snd).bind fun d0 =>
   cn (!d0)
   (some false)
   (cn (!decide ((getAt ((0 : Int), (0 : Int)) h1 t95.toNat).fst = at10))
    (some false)
    (gd (decide ((0 : Int) ≤ (getAt ((0 : Int), (0 : Int)) h1 t95.toNat).snd))
     (i_GoodRooms.l6 k m (IntKind.i64.wrap (at10 + IntKind.i64.wrap ((1 : Int) * (2 : Int) ^ min (getAt ((0 : Int), (0 : Int)) h1 t95.toNat).snd.toNat (64 : Nat)))) t94 (IntKind.i64.wrap (t95 + (1 : Int))) h1)))))
 (some (decide (at10 = (32 : Int)))) := by kernel_rfl
theorem i_GoodRooms.f_eq (k : Nat) (r_Free : List (List Int)) (r_Held : List (Int × Int)) : i_GoodRooms.f k r_Free r_Held =
 cn (!decide ((↑r_Free.length : Int) = (6 : Int)))
 (some false)
 (i_GoodRooms.l0 k k r_Free ((↑r_Free.length : Int)) ((0 : Int)) r_Free r_Held ([])) := (opq_eq _).trans (by kernel_rfl)
abbrev i_MostFree.s : Sig := ⟨30, [], [.val], [.agg [.row 30 (.sl 3 (.int .i64)), .row 49 (.pair (.int .i64) (.int .i64))]], [.one (.int .i64), .one .bool], [], [(0, [(4,false),(11,true),(12,false),(13,false)])]⟩
noncomputable def i_MostFree.C (k : Nat) : List (Nat × Ctr) := [(26, i_GoodRooms.s.ctr (fun x => i_GoodRooms.f k x.1 x.2))]
noncomputable def i_MostFree.f (k : Nat) (r_Free : List (List Int)) (r_Held : List (Int × Int)) : Option (Int × Bool) := opq (i_MostFree.s.run Try.prog (i_MostFree.C k) k (r_Free, r_Held))
theorem i_MostFree.ok (k : Nat) : CtrOk Try.prog 30 (i_MostFree.s.ctr (fun x => i_MostFree.f k x.1 x.2)) := sig_ok i_MostFree.s (.cons (i_GoodRooms.ok k) .nil) (by kernel_rfl) fun _ => opq_eq _
noncomputable def i_MostFree.l0 (k : Nat) (m : Nat) (most4 : Int) (t11 : List (List Int)) (t12 : Int) (t13 : Int) : Option (Int × Bool) := i_MostFree.s.head Try.prog (i_MostFree.C k) k 1 0 [] m [(4, AV.int IntKind.i64 most4), (11, AV.row 30 (Kind.sl 3 (Kind.int IntKind.i64)) t11), (12, AV.int IntKind.i64 t12), (13, AV.int IntKind.i64 t13)] [Root.dead]
theorem i_MostFree.l0_z (k : Nat) (most4 : Int) (t11 : List (List Int)) (t12 : Int) (t13 : Int) : i_MostFree.l0 k 0 most4 t11 t12 t13 = none := by kernel_rfl
theorem i_MostFree.l0_s (k : Nat) (m : Nat) (most4 : Int) (t11 : List (List Int)) (t12 : Int) (t13 : Int) : i_MostFree.l0 k (m + 1) most4 t11 t12 t13 =
 cn (decide (t13 < t12))
 (gd (inb t13 t11.length)
  (cn (decide ((0 : Int) < (↑(getAt [] t11 t13.toNat).length : Int)))
   (i_MostFree.l0 k m t13 t11 t12 (IntKind.i64.wrap (t13 + (1 : Int))))
   (i_MostFree.l0 k m most4 t11 t12 (IntKind.i64.wrap (t13 + (1 : Int))))))
 (some ((most4, true))) := by kernel_rfl
theorem i_MostFree.f_eq (k : Nat) (r_Free : List (List Int)) (r_Held : List (Int × Int)) : i_MostFree.f k r_Free r_Held =
 (i_GoodRooms.f k r_Free r_Held).bind fun d0 =>
 cn (!d0)
 (some (((0 : Int), false)))
 (i_MostFree.l0 k k ((-1 : Int)) r_Free ((↑r_Free.length : Int)) ((0 : Int))) := (opq_eq _).trans (by kernel_rfl)
abbrev w_eqIntS.s : Sig := ⟨20, [], [.val, .val], [.one (.row 3 (.int .i64)), .one (.row 3 (.int .i64))], [.one .bool], [], [(0, [(0,false),(1,false),(5,false)])]⟩
noncomputable def w_eqIntS.C (k : Nat) : List (Nat × Ctr) := []
noncomputable def w_eqIntS.f (k : Nat) (a : List Int) (b : List Int) : Option Bool := opq (w_eqIntS.s.run Try.prog (w_eqIntS.C k) k (a, b))
theorem w_eqIntS.ok (k : Nat) : CtrOk Try.prog 20 (w_eqIntS.s.ctr (fun x => w_eqIntS.f k x.1 x.2)) := sig_ok w_eqIntS.s .nil (by kernel_rfl) fun _ => opq_eq _
noncomputable def w_eqIntS.l0 (k : Nat) (m : Nat) (a0 : List Int) (b1 : List Int) (i5 : Int) : Option Bool := w_eqIntS.s.head Try.prog (w_eqIntS.C k) k 1 0 [] m [(0, AV.row 3 (Kind.int IntKind.i64) a0), (1, AV.row 3 (Kind.int IntKind.i64) b1), (5, AV.int IntKind.i64 i5)] [Root.dead]
theorem w_eqIntS.l0_z (k : Nat) (a0 : List Int) (b1 : List Int) (i5 : Int) : w_eqIntS.l0 k 0 a0 b1 i5 = none := by kernel_rfl
theorem w_eqIntS.l0_s (k : Nat) (m : Nat) (a0 : List Int) (b1 : List Int) (i5 : Int) : w_eqIntS.l0 k (m + 1) a0 b1 i5 =
 cn (decide (i5 < (↑a0.length : Int)))
 (gd (inb i5 a0.length)
  (gd (inb i5 b1.length)
   (cn (!decide (getAt (0 : Int) a0 i5.toNat = getAt (0 : Int) b1 i5.toNat))
    (some false)
    (w_eqIntS.l0 k m a0 b1 (IntKind.i64.wrap (i5 + (1 : Int)))))))
 (some true) := by kernel_rfl
theorem w_eqIntS.f_eq (k : Nat) (a : List Int) (b : List Int) : w_eqIntS.f k a b =
 cn (!decide ((↑a.length : Int) = (↑b.length : Int)))
 (some false)
 (w_eqIntS.l0 k k a b ((0 : Int))) := (opq_eq _).trans (by kernel_rfl)
abbrev w_eqIntSS.s : Sig := ⟨48, [], [.val, .val], [.one (.row 30 (.sl 3 (.int .i64))), .one (.row 30 (.sl 3 (.int .i64)))], [.one .bool], [], [(0, [(0,false),(1,false),(5,false)])]⟩
noncomputable def w_eqIntSS.C (k : Nat) : List (Nat × Ctr) := [(20, w_eqIntS.s.ctr (fun x => w_eqIntS.f k x.1 x.2))]
noncomputable def w_eqIntSS.f (k : Nat) (a : List (List Int)) (b : List (List Int)) : Option Bool := opq (w_eqIntSS.s.run Try.prog (w_eqIntSS.C k) k (a, b))
theorem w_eqIntSS.ok (k : Nat) : CtrOk Try.prog 48 (w_eqIntSS.s.ctr (fun x => w_eqIntSS.f k x.1 x.2)) := sig_ok w_eqIntSS.s (.cons (w_eqIntS.ok k) .nil) (by kernel_rfl) fun _ => opq_eq _
noncomputable def w_eqIntSS.l0 (k : Nat) (m : Nat) (a0 : List (List Int)) (b1 : List (List Int)) (i5 : Int) : Option Bool := w_eqIntSS.s.head Try.prog (w_eqIntSS.C k) k 1 0 [] m [(0, AV.row 30 (Kind.sl 3 (Kind.int IntKind.i64)) a0), (1, AV.row 30 (Kind.sl 3 (Kind.int IntKind.i64)) b1), (5, AV.int IntKind.i64 i5)] [Root.dead]
theorem w_eqIntSS.l0_z (k : Nat) (a0 : List (List Int)) (b1 : List (List Int)) (i5 : Int) : w_eqIntSS.l0 k 0 a0 b1 i5 = none := by kernel_rfl
theorem w_eqIntSS.l0_s (k : Nat) (m : Nat) (a0 : List (List Int)) (b1 : List (List Int)) (i5 : Int) : w_eqIntSS.l0 k (m + 1) a0 b1 i5 =
 cn (decide (i5 < (↑a0.length : Int)))
 (gd (inb i5 a0.length)
  (gd (inb i5 b1.length)
   ((w_eqIntS.f k (getAt [] a0 i5.toNat) (getAt [] b1 i5.toNat)).bind fun d0 =>
    cn (!d0)
    (some false)
    (w_eqIntSS.l0 k m a0 b1 (IntKind.i64.wrap (i5 + (1 : Int)))))))
 (some true) := by kernel_rfl
theorem w_eqIntSS.f_eq (k : Nat) (a : List (List Int)) (b : List (List Int)) : w_eqIntSS.f k a b =
 cn (!decide ((↑a.length : Int) = (↑b.length : Int)))
 (some false)
 (w_eqIntSS.l0 k k a b ((0 : Int))) := (opq_eq _).trans (by kernel_rfl)
abbrev w_eqHeld.s : Sig := ⟨83, [], [.val, .val], [.agg [.int .i64, .int .i64], .agg [.int .i64, .int .i64]], [.one .bool], [], []⟩
noncomputable def w_eqHeld.C (k : Nat) : List (Nat × Ctr) := []
noncomputable def w_eqHeld.f (k : Nat) (a_At : Int) (a_Order : Int) (b_At : Int) (b_Order : Int) : Option Bool := opq (w_eqHeld.s.run Try.prog (w_eqHeld.C k) k ((a_At, a_Order), (b_At, b_Order)))
theorem w_eqHeld.ok (k : Nat) : CtrOk Try.prog 83 (w_eqHeld.s.ctr (fun x => w_eqHeld.f k x.1.1 x.1.2 x.2.1 x.2.2)) := sig_ok w_eqHeld.s .nil (by kernel_rfl) fun _ => opq_eq _
theorem w_eqHeld.f_eq (k : Nat) (a_At : Int) (a_Order : Int) (b_At : Int) (b_Order : Int) : w_eqHeld.f k a_At a_Order b_At b_Order =
 cn (!decide (a_At = b_At))
 (some false)
 (cn (!decide (a_Order = b_Order))
  (some false)
  (some true)) := (opq_eq _).trans (by kernel_rfl)
abbrev w_eqHeldS.s : Sig := ⟨49, [], [.val, .val], [.one (.row 49 (.pair (.int .i64) (.int .i64))), .one (.row 49 (.pair (.int .i64) (.int .i64)))], [.one .bool], [], [(0, [(0,false),(1,false),(5,false)])]⟩
noncomputable def w_eqHeldS.C (k : Nat) : List (Nat × Ctr) := [(83, w_eqHeld.s.ctr (fun x => w_eqHeld.f k x.1.1 x.1.2 x.2.1 x.2.2))]
noncomputable def w_eqHeldS.f (k : Nat) (a : List (Int × Int)) (b : List (Int × Int)) : Option Bool := opq (w_eqHeldS.s.run Try.prog (w_eqHeldS.C k) k (a, b))
theorem w_eqHeldS.ok (k : Nat) : CtrOk Try.prog 49 (w_eqHeldS.s.ctr (fun x => w_eqHeldS.f k x.1 x.2)) := sig_ok w_eqHeldS.s (.cons (w_eqHeld.ok k) .nil) (by kernel_rfl) fun _ => opq_eq _
noncomputable def w_eqHeldS.l0 (k : Nat) (m : Nat) (a0 : List (Int × Int)) (b1 : List (Int × Int)) (i5 : Int) : Option Bool := w_eqHeldS.s.head Try.prog (w_eqHeldS.C k) k 1 0 [] m [(0, AV.row 49 ((Kind.int IntKind.i64).pair (Kind.int IntKind.i64)) a0), (1, AV.row 49 ((Kind.int IntKind.i64).pair (Kind.int IntKind.i64)) b1), (5, AV.int IntKind.i64 i5)] [Root.dead]
theorem w_eqHeldS.l0_z (k : Nat) (a0 : List (Int × Int)) (b1 : List (Int × Int)) (i5 : Int) : w_eqHeldS.l0 k 0 a0 b1 i5 = none := by kernel_rfl
theorem w_eqHeldS.l0_s (k : Nat) (m : Nat) (a0 : List (Int × Int)) (b1 : List (Int × Int)) (i5 : Int) : w_eqHeldS.l0 k (m + 1) a0 b1 i5 =
 cn (decide (i5 < (↑a0.length : Int)))
 (gd (inb i5 a0.length)
  (gd (inb i5 b1.length)
   ((w_eqHeld.f k (getAt ((0 : Int), (0 : Int)) a0 i5.toNat).fst (getAt ((0 : Int), (0 : Int)) a0 i5.toNat).snd (getAt ((0 : Int), (0 : Int)) b1 i5.toNat).fst (getAt ((0 : Int), (0 : Int)) b1 i5.toNat).snd).bind fun d0 =>
    cn (!d0)
    (some false)
    (w_eqHeldS.l0 k m a0 b1 (IntKind.i64.wrap (i5 + (1 : Int)))))))
 (some true) := by kernel_rfl
theorem w_eqHeldS.f_eq (k : Nat) (a : List (Int × Int)) (b : List (Int × Int)) : w_eqHeldS.f k a b =
 cn (!decide ((↑a.length : Int) = (↑b.length : Int)))
 (some false)
 (w_eqHeldS.l0 k k a b ((0 : Int))) := (opq_eq _).trans (by kernel_rfl)
abbrev w_eqRooms.s : Sig := ⟨14, [], [.val, .val], [.agg [.row 30 (.sl 3 (.int .i64)), .row 49 (.pair (.int .i64) (.int .i64))], .agg [.row 30 (.sl 3 (.int .i64)), .row 49 (.pair (.int .i64) (.int .i64))]], [.one .bool], [], []⟩
noncomputable def w_eqRooms.C (k : Nat) : List (Nat × Ctr) := [(48, w_eqIntSS.s.ctr (fun x => w_eqIntSS.f k x.1 x.2)), (49, w_eqHeldS.s.ctr (fun x => w_eqHeldS.f k x.1 x.2))]
noncomputable def w_eqRooms.f (k : Nat) (a_Free : List (List Int)) (a_Held : List (Int × Int)) (b_Free : List (List Int)) (b_Held : List (Int × Int)) : Option Bool := opq (w_eqRooms.s.run Try.prog (w_eqRooms.C k) k ((a_Free, a_Held), (b_Free, b_Held)))
theorem w_eqRooms.ok (k : Nat) : CtrOk Try.prog 14 (w_eqRooms.s.ctr (fun x => w_eqRooms.f k x.1.1 x.1.2 x.2.1 x.2.2)) := sig_ok w_eqRooms.s (.cons (w_eqIntSS.ok k) (.cons (w_eqHeldS.ok k) .nil)) (by kernel_rfl) fun _ => opq_eq _
theorem w_eqRooms.f_eq (k : Nat) (a_Free : List (List Int)) (a_Held : List (Int × Int)) (b_Free : List (List Int)) (b_Held : List (Int × Int)) : w_eqRooms.f k a_Free a_Held b_Free b_Held =
 (w_eqIntSS.f k a_Free b_Free).bind fun d0 =>
 cn (!d0)
 (some false)
 ((w_eqHeldS.f k a_Held b_Held).bind fun d1 =>
  cn (!d1)
  (some false)
  (some true)) := (opq_eq _).trans (by kernel_rfl)
abbrev w_FnExactMostFree.s : Sig := ⟨7, [], [.val], [.agg [.row 30 (.sl 3 (.int .i64)), .row 98 (.pair (.int .i64) (.int .i64))]], [.one .bool], [], []⟩
noncomputable def w_FnExactMostFree.C (k : Nat) : List (Nat × Ctr) := [(14, w_eqRooms.s.ctr (fun x => w_eqRooms.f k x.1.1 x.1.2 x.2.1 x.2.2)), (23, w_szRooms.s.ctr (fun x => w_szRooms.f k x.1.1 x.1.2 x.2)), (25, w_toRooms.s.ctr (fun x => w_toRooms.f k x.1 x.2)), (29, s_MostFree.s.ctr (fun x => s_MostFree.f k x.1 x.2)), (30, i_MostFree.s.ctr (fun x => i_MostFree.f k x.1 x.2))]
noncomputable def w_FnExactMostFree.f (k : Nat) (aR_Free : List (List Int)) (aR_Held : List (Int × Int)) : Option Bool := opq (w_FnExactMostFree.s.run Try.prog (w_FnExactMostFree.C k) k (aR_Free, aR_Held))
theorem w_FnExactMostFree.ok (k : Nat) : CtrOk Try.prog 7 (w_FnExactMostFree.s.ctr (fun x => w_FnExactMostFree.f k x.1 x.2)) := sig_ok w_FnExactMostFree.s (.cons (w_eqRooms.ok k) (.cons (w_szRooms.ok k) (.cons (w_toRooms.ok k) (.cons (s_MostFree.ok k) (.cons (i_MostFree.ok k) .nil))))) (by kernel_rfl) fun _ => opq_eq _
theorem w_FnExactMostFree.f_eq (k : Nat) (aR_Free : List (List Int)) (aR_Held : List (Int × Int)) : w_FnExactMostFree.f k aR_Free aR_Held =
 (w_szRooms.f k aR_Free aR_Held (1048576 : Int)).bind fun d0 =>
 cn (decide (d0 < (0 : Int)))
 (some true)
 ((w_toRooms.f k aR_Free aR_Held).bind fun d1 =>
  (s_MostFree.f k d1.fst d1.snd).bind fun d2 =>
  (w_toRooms.f k aR_Free aR_Held).bind fun d3 =>
  (i_MostFree.f k d3.fst d3.snd).bind fun d4 =>
  cn (!decide (d4.fst = d2.fst))
  (some false)
  (cn (!d4.snd == d2.snd)
   (some false)
   ((w_toRooms.f k aR_Free aR_Held).bind fun d5 =>
    (w_eqRooms.f k d3.fst d3.snd d5.fst d5.snd).bind fun d6 =>
    cn (!d6)
    (some false)
    (some true)))) := (opq_eq _).trans (by kernel_rfl)
end Go.Proofs.Ytlkbmcmglkdciaa
