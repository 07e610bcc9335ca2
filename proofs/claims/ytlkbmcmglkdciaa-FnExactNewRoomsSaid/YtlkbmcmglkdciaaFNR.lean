/- The functions that the statement reaches, as the executor tells them; their contracts. No condition. -/
import Derived.Test.YtlkbmcmglkdciaaE36
import Derived.Test.YtlkbmcmglkdciaaProg

namespace Go.Proofs.Ytlkbmcmglkdciaa
open Go Go.Proofs.YtlkbmcmglkdciaaE
set_option linter.unusedVariables false
set_option maxRecDepth 100000
abbrev s_NewRooms.s : Sig := ⟨12, [], [], [], [.agg [.own 30 (.sl 3 (.int .i64)), .own 49 (.pair (.int .i64) (.int .i64))]], [], []⟩
noncomputable def s_NewRooms.C (k : Nat) : List (Nat × Ctr) := []
noncomputable def s_NewRooms.f (k : Nat)  : Option (List (List Int) × (List (Int × Int))) := opq (s_NewRooms.s.run Try.prog (s_NewRooms.C k) k ())
theorem s_NewRooms.ok (k : Nat) : CtrOk Try.prog 12 (s_NewRooms.s.ctr (fun _ => s_NewRooms.f k)) := sig_ok s_NewRooms.s .nil (by kernel_rfl) fun _ => opq_eq _
theorem s_NewRooms.f_eq (k : Nat) : s_NewRooms.f k =
 some (((List.replicate (6 : Nat) []).set (5 : Nat) [(0 : Int)], [])) := (opq_eq _).trans (by kernel_rfl)
abbrev i_NewRooms.s : Sig := ⟨13, [], [], [], [.agg [.own 30 (.sl 3 (.int .i64)), .own 49 (.pair (.int .i64) (.int .i64))]], [], []⟩
noncomputable def i_NewRooms.C (k : Nat) : List (Nat × Ctr) := []
noncomputable def i_NewRooms.f (k : Nat)  : Option (List (List Int) × (List (Int × Int))) := opq (i_NewRooms.s.run Try.prog (i_NewRooms.C k) k ())
theorem i_NewRooms.ok (k : Nat) : CtrOk Try.prog 13 (i_NewRooms.s.ctr (fun _ => i_NewRooms.f k)) := sig_ok i_NewRooms.s .nil (by kernel_rfl) fun _ => opq_eq _
theorem i_NewRooms.f_eq (k : Nat) : i_NewRooms.f k =
 some (((List.replicate (6 : Nat) []).set (5 : Nat) [(0 : Int)], [])) := (opq_eq _).trans (by kernel_rfl)
abbrev w_eqIntS.s : Sig := ⟨20, [], [.val, .val], [.one (.row 3 (.int .i64)), .one (.row 3 (.int .i64))], [.one .bool], [], [(0, [(0,false),(1,false),(5,false)])]⟩
noncomputable def w_eqIntS.C (k : Nat) : List (Nat × Ctr) := []
noncomputable def w_eqIntS.f (k : Nat) (a : List Int) (b : List Int) : Option Bool := opq (w_eqIntS.s.run Try.prog (w_eqIntS.C k) k (a, b))
theorem w_eqIntS.ok (k : Nat) : CtrOk Try.prog 20 (w_eqIntS.s.ctr (fun x => w_eqIntS.f k x.1 x.2)) := sig_ok w_eqIntS.s .nil (by kernel_rfl) fun _ => opq_eq _
noncomputable def w_eqIntS.l0 (k : Nat) (m : Nat) (a0 : List Int) (b1 : List Int) (i5 : Int) : Option Bool := w_eqIntS.s.head Try.prog (w_eqIntS.C k) k 1 0 [] m [(0, AV.row 3 (Kind.int IntKind.i64) a0), (1, AV.row 3 (Kind.int IntKind.i64) b1), (5, AV.int IntKind.i64 i5)] [Root.dead]
theorem w_eqIntS.l0_z (k : Nat) (a0 : List Int) (b1 : List Int) (i5 : Int) : w_eqIntS.l0 k 0 a0 b1 i5 = none := by kernel_rfl
theorem w_eqIntS.l0_s (k : Nat) (m : Nat) (a0 : List Int) (b1 : List Int) (i5 : Int) : w_eqIntS.l0 k (m + 1) a0 b1 i5 =
 cn (decide (i5 < (↑a0.length : Int)))
 (gd (inb i5 a0.length)
  (gd (inb i5 b1.length)
   (cn (!decide (getAt (0 : Int) a0 i5.toNat = getAt (0 : Int) b1 i5.toNat))
    (some false)
    (w_eqIntS.l0 k m a0 b1 (IntKind.i64.wrap (i5 + (1 : Int)))))))
 (some true) := by kernel_rfl
theorem w_eqIntS.f_eq (k : Nat) (a : List Int) (b : List Int) : w_eqIntS.f k a b =
 cn (!decide ((↑a.length : Int) = (↑b.length : Int)))
 (some false)
 (w_eqIntS.l0 k k a b ((0 : Int))) := (opq_eq _).trans (by kernel_rfl)
abbrev w_eqIntSS.s : Sig := ⟨48, [], [.val, .val], [.one (.row 30 (.sl 3 (.int .i64))), .one (.row 30 (.sl 3 (.int .i64)))], [.one .bool], [], [(0, [(0,false),(1,false),(5,false)])]⟩
noncomputable def w_eqIntSS.C (k : Nat) : List (Nat × Ctr) := [(20, w_eqIntS.s.ctr (fun x => w_eqIntS.f k x.1 x.2))]
noncomputable def w_eqIntSS.f (k : Nat) (a : List (List Int)) (b : List (List Int)) : Option Bool := opq (w_eqIntSS.s.run Try.prog (w_eqIntSS.C k) k (a, b))
theorem w_eqIntSS.ok (k : Nat) : CtrOk Try.prog 48 (w_eqIntSS.s.ctr (fun x => w_eqIntSS.f k x.1 x.2)) := sig_ok w_eqIntSS.s (.cons (w_eqIntS.ok k) .nil) (by kernel_rfl) fun _ => opq_eq _
noncomputable def w_eqIntSS.l0 (k : Nat) (m : Nat) (a0 : List (List Int)) (b1 : List (List Int)) (i5 : Int) : Option Bool := w_eqIntSS.s.head Try.prog (w_eqIntSS.C k) k 1 0 [] m [(0, AV.row 30 (Kind.sl 3 (Kind.int IntKind.i64)) a0), (1, AV.row 30 (Kind.sl 3 (Kind.int IntKind.i64)) b1), (5, AV.int IntKind.i64 i5)] [Root.dead]
theorem w_eqIntSS.l0_z (k : Nat) (a0 : List (List Int)) (b1 : List (List Int)) (i5 : Int) : w_eqIntSS.l0 k 0 a0 b1 i5 = none := by kernel_rfl
theorem w_eqIntSS.l0_s (k : Nat) (m : Nat) (a0 : List (List Int)) (b1 : List (List Int)) (i5 : Int) : w_eqIntSS.l0 k (m + 1) a0 b1 i5 =
 cn (decide (i5 < (↑a0.length : Int)))
 (gd (inb i5 a0.length)
  (gd (inb i5 b1.length)
   ((w_eqIntS.f k (getAt [] a0 i5.toNat) (getAt [] b1 i5.toNat)).bind fun d0 =>
    cn (!d0)
    (some false)
    (w_eqIntSS.l0 k m a0 b1 (IntKind.i64.wrap (i5 + (1 : Int)))))))
 (some true) := by kernel_rfl
theorem w_eqIntSS.f_eq (k : Nat) (a : List (List Int)) (b : List (List Int)) : w_eqIntSS.f k a b =
 cn (!decide ((↑a.length : Int) = (↑b.length : Int)))
 (some false)
 (w_eqIntSS.l0 k k a b ((0 : Int))) := (opq_eq _).trans (by kernel_rfl)
abbrev w_eqHeld.s : Sig := ⟨83, [], [.val, .val], [.agg [.int .i64, .int .i64], .agg [.int .i64, .int .i64]], [.one .bool], [], []⟩
noncomputable def w_eqHeld.C (k : Nat) : List (Nat × Ctr) := []
noncomputable def w_eqHeld.f (k : Nat) (a_At : Int) (a_Order : Int) (b_At : Int) (b_Order : Int) : Option Bool := opq (w_eqHeld.s.run Try.prog (w_eqHeld.C k) k ((a_At, a_Order), (b_At, b_Order)))
theorem w_eqHeld.ok (k : Nat) : CtrOk Try.prog 83 (w_eqHeld.s.ctr (fun x => w_eqHeld.f k x.1.1 x.1.2 x.2.1 x.2.2)) := sig_ok w_eqHeld.s .nil (by kernel_rfl) fun _ => opq_eq _
theorem w_eqHeld.f_eq (k : Nat) (a_At : Int) (a_Order : Int) (b_At : Int) (b_Order : Int) : w_eqHeld.f k a_At a_Order b_At b_Order =
 cn (!decide (a_At = b_At))
 (some false)
 (cn (!decide (a_Order = b_Order))
  (some false)
  (some true)) := (opq_eq _).trans (by kernel_rfl)
abbrev w_eqHeldS.s : Sig := ⟨49, [], [.val, .val], [.one (.row 49 (.pair (.int .i64) (.int .i64))), .one (.row 49 (.pair (.int .i64) (.int .i64)))], [.one .bool], [], [(0, [(0,false),(1,false),(5,false)])]⟩
noncomputable def w_eqHeldS.C (k : Nat) : List (Nat × Ctr) := [(83, w_eqHeld.s.ctr (fun x => w_eqHeld.f k x.1.1 x.1.2 x.2.1 x.2.2))]
noncomputable def w_eqHeldS.f (k : Nat) (a : List (Int × Int)) (b : List (Int × Int)) : Option Bool := opq (w_eqHeldS.s.run Try.prog (w_eqHeldS.C k) k (a, b))
theorem w_eqHeldS.ok (k : Nat) : CtrOk Try.prog 49 (w_eqHeldS.s.ctr (fun x => w_eqHeldS.f k x.1 x.2)) := sig_ok w_eqHeldS.s (.cons (w_eqHeld.ok k) .nil) (by kernel_rfl) fun _ => opq_eq _
noncomputable def w_eqHeldS.l0 (k : Nat) (m : Nat) (a0 : List (Int × Int)) (b1 : List (Int × Int)) (i5 : Int) : Option Bool := w_eqHeldS.s.head Try.prog (w_eqHeldS.C k) k 1 0 [] m [(0, AV.row 49 ((Kind.int IntKind.i64).pair (Kind.int IntKind.i64)) a0), (1, AV.row 49 ((Kind.int IntKind.i64).pair (Kind.int IntKind.i64)) b1), (5, AV.int IntKind.i64 i5)] [Root.dead]
theorem w_eqHeldS.l0_z (k : Nat) (a0 : List (Int × Int)) (b1 : List (Int × Int)) (i5 : Int) : w_eqHeldS.l0 k 0 a0 b1 i5 = none := by kernel_rfl
theorem w_eqHeldS.l0_s (k : Nat) (m : Nat) (a0 : List (Int × Int)) (b1 : List (Int × Int)) (i5 : Int) : w_eqHeldS.l0 k (m + 1) a0 b1 i5 =
 cn (decide (i5 < (↑a0.length : Int)))
 (gd (inb i5 a0.length)
  (gd (inb i5 b1.length)
   ((w_eqHeld.f k (getAt ((0 : Int), (0 : Int)) a0 i5.toNat).fst (getAt ((0 : Int), (0 : Int)) a0 i5.toNat).snd (getAt ((0 : Int), (0 : Int)) b1 i5.toNat).fst (getAt ((0 : Int), (0 : Int)) b1 i5.toNat).snd).bind fun d0 =>
    cn (!d0)
    (some false)
    (w_eqHeldS.l0 k m a0 b1 (IntKind.i64.wrap (i5 + (1 : Int)))))))
 (some true) := by kernel_rfl
theorem w_eqHeldS.f_eq (k : Nat) (a : List (Int × Int)) (b : List (Int × Int)) : w_eqHeldS.f k a b =
 cn (!decide ((↑a.length : Int) = (↑b.length : Int)))
 (some false)
 (w_eqHeldS.l0 k k a b ((0 : Int))) := (opq_eq _).trans (by kernel_rfl)
abbrev w_eqRooms.s : Sig := ⟨14, [], [.val, .val], [.agg [.row 30 (.sl 3 (.int .i64)), .row 49 (.pair (.int .i64) (.int .i64))], .agg [.row 30 (.sl 3 (.int .i64)), .row 49 (.pair (.int .i64) (.int .i64))]], [.one .bool], [], []⟩
noncomputable def w_eqRooms.C (k : Nat) : List (Nat × Ctr) := [(48, w_eqIntSS.s.ctr (fun x => w_eqIntSS.f k x.1 x.2)), (49, w_eqHeldS.s.ctr (fun x => w_eqHeldS.f k x.1 x.2))]
noncomputable def w_eqRooms.f (k : Nat) (a_Free : List (List Int)) (a_Held : List (Int × Int)) (b_Free : List (List Int)) (b_Held : List (Int × Int)) : Option Bool := opq (w_eqRooms.s.run Try.prog (w_eqRooms.C k) k ((a_Free, a_Held), (b_Free, b_Held)))
theorem w_eqRooms.ok (k : Nat) : CtrOk Try.prog 14 (w_eqRooms.s.ctr (fun x => w_eqRooms.f k x.1.1 x.1.2 x.2.1 x.2.2)) := sig_ok w_eqRooms.s (.cons (w_eqIntSS.ok k) (.cons (w_eqHeldS.ok k) .nil)) (by kernel_rfl) fun _ => opq_eq _
theorem w_eqRooms.f_eq (k : Nat) (a_Free : List (List Int)) (a_Held : List (Int × Int)) (b_Free : List (List Int)) (b_Held : List (Int × Int)) : w_eqRooms.f k a_Free a_Held b_Free b_Held =
 (w_eqIntSS.f k a_Free b_Free).bind fun d0 =>
 cn (!d0)
 (some false)
 ((w_eqHeldS.f k a_Held b_Held).bind fun d1 =>
  cn (!d1)
  (some false)
  (some true)) := (opq_eq _).trans (by kernel_rfl)
abbrev w_markIntS.s : Sig := ⟨21, [], [.chg, .val], [.one (.row 3 (.int .i64)), .one (.int .i64)], [.one (.int .i64)], [.rows 3 (.int .i64)], [(0, [(0,false),(1,false),(5,false)])]⟩
noncomputable def w_markIntS.C (k : Nat) : List (Nat × Ctr) := []
noncomputable def w_markIntS.f (k : Nat) (a : List Int) (k_ : Int) : Option (Int × List Int) := opq (w_markIntS.s.run Try.prog (w_markIntS.C k) k (a, k_))
theorem w_markIntS.ok (k : Nat) : CtrOk Try.prog 21 (w_markIntS.s.ctr (fun x => w_markIntS.f k x.1 x.2)) := sig_ok w_markIntS.s .nil (by kernel_rfl) fun _ => opq_eq _
noncomputable def w_markIntS.l0 (k : Nat) (m : Nat) (k1 : Int) (i5 : Int) (h1 : List Int) : Option (Int × List Int) := w_markIntS.s.head Try.prog (w_markIntS.C k) k 2 0 [] m [(0, AV.ref 1), (1, AV.int IntKind.i64 k1), (5, AV.int IntKind.i64 i5)] [Root.dead, Root.rows 3 (Kind.int IntKind.i64) h1]
theorem w_markIntS.l0_z (k : Nat) (k1 : Int) (i5 : Int) (h1 : List Int) : w_markIntS.l0 k 0 k1 i5 h1 = none := by kernel_rfl
theorem w_markIntS.l0_s (k : Nat) (m : Nat) (k1 : Int) (i5 : Int) (h1 : List Int) : w_markIntS.l0 k (m + 1) k1 i5 h1 =
 cn (decide (i5 < (↑h1.length : Int)))
 (gd (inb i5 h1.length)
  (w_markIntS.l0 k m (IntKind.i64.wrap (k1 + (1 : Int))) (IntKind.i64.wrap (i5 + (1 : Int))) (h1.set i5.toNat k1)))
 (some ((k1, h1))) := by kernel_rfl
theorem w_markIntS.f_eq (k : Nat) (a : List Int) (k_ : Int) : w_markIntS.f k a k_ =
 w_markIntS.l0 k k k_ ((0 : Int)) a := (opq_eq _).trans (by kernel_rfl)
abbrev w_markIntSS.s : Sig := ⟨50, [], [.chg, .val], [.one (.row 30 (.sl 3 (.int .i64))), .one (.int .i64)], [.one (.int .i64)], [.rows 30 (.sl 3 (.int .i64))], [(0, [(0,false),(1,false),(5,false)])]⟩
noncomputable def w_markIntSS.C (k : Nat) : List (Nat × Ctr) := [(21, w_markIntS.s.ctr (fun x => w_markIntS.f k x.1 x.2))]
noncomputable def w_markIntSS.f (k : Nat) (a : List (List Int)) (k_ : Int) : Option (Int × List (List Int)) := opq (w_markIntSS.s.run Try.prog (w_markIntSS.C k) k (a, k_))
theorem w_markIntSS.ok (k : Nat) : CtrOk Try.prog 50 (w_markIntSS.s.ctr (fun x => w_markIntSS.f k x.1 x.2)) := sig_ok w_markIntSS.s (.cons (w_markIntS.ok k) .nil) (by kernel_rfl) fun _ => opq_eq _
noncomputable def w_markIntSS.l0 (k : Nat) (m : Nat) (k1 : Int) (i5 : Int) (h1 : List (List Int)) : Option (Int × List (List Int)) := w_markIntSS.s.head Try.prog (w_markIntSS.C k) k 2 0 [] m [(0, AV.ref 1), (1, AV.int IntKind.i64 k1), (5, AV.int IntKind.i64 i5)] [Root.dead, Root.rows 30 (Kind.sl 3 (Kind.int IntKind.i64)) h1]
theorem w_markIntSS.l0_z (k : Nat) (k1 : Int) (i5 : Int) (h1 : List (List Int)) : w_markIntSS.l0 k 0 k1 i5 h1 = none := by kernel_rfl
theorem w_markIntSS.l0_s (k : Nat) (m : Nat) (k1 : Int) (i5 : Int) (h1 : List (List Int)) : w_markIntSS.l0 k (m + 1) k1 i5 h1 =
 cn (decide (i5 < (↑h1.length : Int)))
 (gd (inb i5 h1.length)
  ((w_markIntS.f k (getAt [] h1 i5.toNat) k1).bind fun d0 =>
   w_markIntSS.l0 k m d0.fst (IntKind.i64.wrap (i5 + (1 : Int))) (h1.set i5.toNat d0.snd)))
 (some ((k1, h1))) := by kernel_rfl
theorem w_markIntSS.f_eq (k : Nat) (a : List (List Int)) (k_ : Int) : w_markIntSS.f k a k_ =
 w_markIntSS.l0 k k k_ ((0 : Int)) a := (opq_eq _).trans (by kernel_rfl)
abbrev w_markHeldS.s : Sig := ⟨51, [], [.chg, .val], [.one (.row 49 (.pair (.int .i64) (.int .i64))), .one (.int .i64)], [.one (.int .i64)], [.rows 49 (.pair (.int .i64) (.int .i64))], [(0, [(0,false),(1,false),(5,false)])]⟩
noncomputable def w_markHeldS.C (k : Nat) : List (Nat × Ctr) := []
noncomputable def w_markHeldS.f (k : Nat) (a : List (Int × Int)) (k_ : Int) : Option (Int × (List (Int × Int))) := opq (w_markHeldS.s.run Try.prog (w_markHeldS.C k) k (a, k_))
theorem w_markHeldS.ok (k : Nat) : CtrOk Try.prog 51 (w_markHeldS.s.ctr (fun x => w_markHeldS.f k x.1 x.2)) := sig_ok w_markHeldS.s .nil (by kernel_rfl) fun _ => opq_eq _
noncomputable def w_markHeldS.l0 (k : Nat) (m : Nat) (k1 : Int) (i5 : Int) (h1 : List (Int × Int)) : Option (Int × (List (Int × Int))) := w_markHeldS.s.head Try.prog (w_markHeldS.C k) k 2 0 [] m [(0, AV.ref 1), (1, AV.int IntKind.i64 k1), (5, AV.int IntKind.i64 i5)] [Root.dead, Root.rows 49 ((Kind.int IntKind.i64).pair (Kind.int IntKind.i64)) h1]
theorem w_markHeldS.l0_z (k : Nat) (k1 : Int) (i5 : Int) (h1 : List (Int × Int)) : w_markHeldS.l0 k 0 k1 i5 h1 = none := by kernel_rfl
theorem w_markHeldS.l0_s (k : Nat) (m : Nat) (k1 : Int) (i5 : Int) (h1 : List (Int × Int)) : w_markHeldS.l0 k (m + 1) k1 i5 h1 =
 cn (decide (i5 < (↑h1.length : Int)))
 (gd (inb i5 h1.length)
  (gd (inb i5 (h1.set i5.toNat (k1, (getAt ((0 : Int), (0 : Int)) h1 i5.toNat).snd)).length)
   (w_markHeldS.l0 k m (IntKind.i64.wrap (IntKind.i64.wrap (k1 + (1 : Int)) + (1 : Int))) (IntKind.i64.wrap (i5 + (1 : Int))) ((h1.set i5.toNat (k1, (getAt ((0 : Int), (0 : Int)) h1 i5.toNat).snd)).set i5.toNat ((getAt ((0 : Int), (0 : Int)) (h1.set i5.toNat (k1, (getAt ((0 : Int), (0 : Int)) h1 i5.toNat).snd)) i5.toNat).fst, IntKind.i64.wrap (k1 + (1 : Int)))))))
 (some ((k1, h1))) := by kernel_rfl
theorem w_markHeldS.f_eq (k : Nat) (a : List (Int × Int)) (k_ : Int) : w_markHeldS.f k a k_ =
 w_markHeldS.l0 k k k_ ((0 : Int)) a := (opq_eq _).trans (by kernel_rfl)
abbrev w_markRooms.s : Sig := ⟨15, [.agg 2, .one], [.chg, .chg, .val], [.one (.row 30 (.sl 3 (.int .i64))), .one (.row 49 (.pair (.int .i64) (.int .i64))), .one (.int .i64)], [.one (.int .i64)], [.rows 30 (.sl 3 (.int .i64)), .rows 49 (.pair (.int .i64) (.int .i64))], []⟩
noncomputable def w_markRooms.C (k : Nat) : List (Nat × Ctr) := [(50, w_markIntSS.s.ctr (fun x => w_markIntSS.f k x.1 x.2)), (51, w_markHeldS.s.ctr (fun x => w_markHeldS.f k x.1 x.2))]
noncomputable def w_markRooms.f (k : Nat) (a_Free : List (List Int)) (a_Held : List (Int × Int)) (k_ : Int) : Option (Int × List (List Int) × (List (Int × Int))) := opq (w_markRooms.s.run Try.prog (w_markRooms.C k) k (a_Free, a_Held, k_))
theorem w_markRooms.ok (k : Nat) : CtrOk Try.prog 15 (w_markRooms.s.ctr (fun x => w_markRooms.f k x.1 x.2.1 x.2.2)) := sig_ok w_markRooms.s (.cons (w_markIntSS.ok k) (.cons (w_markHeldS.ok k) .nil)) (by kernel_rfl) fun _ => opq_eq _
theorem w_markRooms.f_eq (k : Nat) (a_Free : List (List Int)) (a_Held : List (Int × Int)) (k_ : Int) : w_markRooms.f k a_Free a_Held k_ =
 (w_markIntSS.f k a_Free k_).bind fun d0 =>
 (w_markHeldS.f k a_Held d0.fst).bind fun d1 =>
 some ((d1.fst, d0.snd, d1.snd)) := (opq_eq _).trans (by kernel_rfl)
abbrev w_heldIntS.s : Sig := ⟨22, [], [.val, .val], [.one (.row 3 (.int .i64)), .one (.int .i64)], [.one (.int .i64)], [], [(0, [(0,false),(1,false),(5,false)])]⟩
noncomputable def w_heldIntS.C (k : Nat) : List (Nat × Ctr) := []
noncomputable def w_heldIntS.f (k : Nat) (a : List Int) (k_ : Int) : Option Int := opq (w_heldIntS.s.run Try.prog (w_heldIntS.C k) k (a, k_))
theorem w_heldIntS.ok (k : Nat) : CtrOk Try.prog 22 (w_heldIntS.s.ctr (fun x => w_heldIntS.f k x.1 x.2)) := sig_ok w_heldIntS.s .nil (by kernel_rfl) fun _ => opq_eq _
noncomputable def w_heldIntS.l0 (k : Nat) (m : Nat) (a0 : List Int) (k1 : Int) (i5 : Int) : Option Int := w_heldIntS.s.head Try.prog (w_heldIntS.C k) k 1 0 [] m [(0, AV.row 3 (Kind.int IntKind.i64) a0), (1, AV.int IntKind.i64 k1), (5, AV.int IntKind.i64 i5)] [Root.dead]
theorem w_heldIntS.l0_z (k : Nat) (a0 : List Int) (k1 : Int) (i5 : Int) : w_heldIntS.l0 k 0 a0 k1 i5 = none := by kernel_rfl
theorem w_heldIntS.l0_s (k : Nat) (m : Nat) (a0 : List Int) (k1 : Int) (i5 : Int) : w_heldIntS.l0 k (m + 1) a0 k1 i5 =
 cn (decide (i5 < (↑a0.length : Int)))
 (gd (inb i5 a0.length)
  (cn (!decide (getAt (0 : Int) a0 i5.toNat = k1))
   (some ((-1 : Int)))
   (w_heldIntS.l0 k m a0 (IntKind.i64.wrap (k1 + (1 : Int))) (IntKind.i64.wrap (i5 + (1 : Int))))))
 (some k1) := by kernel_rfl
theorem w_heldIntS.f_eq (k : Nat) (a : List Int) (k_ : Int) : w_heldIntS.f k a k_ =
 w_heldIntS.l0 k k a k_ ((0 : Int)) := (opq_eq _).trans (by kernel_rfl)
abbrev w_heldIntSS.s : Sig := ⟨52, [], [.val, .val], [.one (.row 30 (.sl 3 (.int .i64))), .one (.int .i64)], [.one (.int .i64)], [], [(0, [(0,false),(1,false),(5,false)])]⟩
noncomputable def w_heldIntSS.C (k : Nat) : List (Nat × Ctr) := [(22, w_heldIntS.s.ctr (fun x => w_heldIntS.f k x.1 x.2))]
noncomputable def w_heldIntSS.f (k : Nat) (a : List (List Int)) (k_ : Int) : Option Int := opq (w_heldIntSS.s.run Try.prog (w_heldIntSS.C k) k (a, k_))
theorem w_heldIntSS.ok (k : Nat) : CtrOk Try.prog 52 (w_heldIntSS.s.ctr (fun x => w_heldIntSS.f k x.1 x.2)) := sig_ok w_heldIntSS.s (.cons (w_heldIntS.ok k) .nil) (by kernel_rfl) fun _ => opq_eq _
noncomputable def w_heldIntSS.l0 (k : Nat) (m : Nat) (a0 : List (List Int)) (k1 : Int) (i5 : Int) : Option Int := w_heldIntSS.s.head Try.prog (w_heldIntSS.C k) k 1 0 [] m [(0, AV.row 30 (Kind.sl 3 (Kind.int IntKind.i64)) a0), (1, AV.int IntKind.i64 k1), (5, AV.int IntKind.i64 i5)] [Root.dead]
theorem w_heldIntSS.l0_z (k : Nat) (a0 : List (List Int)) (k1 : Int) (i5 : Int) : w_heldIntSS.l0 k 0 a0 k1 i5 = none := by kernel_rfl
theorem w_heldIntSS.l0_s (k : Nat) (m : Nat) (a0 : List (List Int)) (k1 : Int) (i5 : Int) : w_heldIntSS.l0 k (m + 1) a0 k1 i5 =
 cn (decide (i5 < (↑a0.length : Int)))
 (gd (inb i5 a0.length)
  ((w_heldIntS.f k (getAt [] a0 i5.toNat) k1).bind fun d0 =>
   cn (decide (d0 < (0 : Int)))
   (some ((-1 : Int)))
   (w_heldIntSS.l0 k m a0 d0 (IntKind.i64.wrap (i5 + (1 : Int))))))
 (some k1) := by kernel_rfl
theorem w_heldIntSS.f_eq (k : Nat) (a : List (List Int)) (k_ : Int) : w_heldIntSS.f k a k_ =
 w_heldIntSS.l0 k k a k_ ((0 : Int)) := (opq_eq _).trans (by kernel_rfl)
abbrev w_heldHeldS.s : Sig := ⟨53, [], [.val, .val], [.one (.row 49 (.pair (.int .i64) (.int .i64))), .one (.int .i64)], [.one (.int .i64)], [], [(0, [(0,false),(1,false),(5,false)])]⟩
noncomputable def w_heldHeldS.C (k : Nat) : List (Nat × Ctr) := []
noncomputable def w_heldHeldS.f (k : Nat) (a : List (Int × Int)) (k_ : Int) : Option Int := opq (w_heldHeldS.s.run Try.prog (w_heldHeldS.C k) k (a, k_))
theorem w_heldHeldS.ok (k : Nat) : CtrOk Try.prog 53 (w_heldHeldS.s.ctr (fun x => w_heldHeldS.f k x.1 x.2)) := sig_ok w_heldHeldS.s .nil (by kernel_rfl) fun _ => opq_eq _
noncomputable def w_heldHeldS.l0 (k : Nat) (m : Nat) (a0 : List (Int × Int)) (k1 : Int) (i5 : Int) : Option Int := w_heldHeldS.s.head Try.prog (w_heldHeldS.C k) k 1 0 [] m [(0, AV.row 49 ((Kind.int IntKind.i64).pair (Kind.int IntKind.i64)) a0), (1, AV.int IntKind.i64 k1), (5, AV.int IntKind.i64 i5)] [Root.dead]
theorem w_heldHeldS.l0_z (k : Nat) (a0 : List (Int × Int)) (k1 : Int) (i5 : Int) : w_heldHeldS.l0 k 0 a0 k1 i5 = none := by kernel_rfl
theorem w_heldHeldS.l0_s (k : Nat) (m : Nat) (a0 : List (Int × Int)) (k1 : Int) (i5 : Int) : w_heldHeldS.l0 k (m + 1) a0 k1 i5 =
 cn (decide (i5 < (↑a0.length : Int)))
 (gd (inb i5 a0.length)
  (cn (!decide ((getAt ((0 : Int), (0 : Int)) a0 i5.toNat).fst = k1))
   (some ((-1 : Int)))
   (gd (inb i5 a0.length)
    (cn (!decide ((getAt ((0 : Int), (0 : Int)) a0 i5.toNat).snd = IntKind.i64.wrap (k1 + (1 : Int))))
     (some ((-1 : Int)))
     (w_heldHeldS.l0 k m a0 (IntKind.i64.wrap (IntKind.i64.wrap (k1 + (1 : Int)) + (1 : Int))) (IntKind.i64.wrap (i5 + (1 : Int))))))))
 (some k1) := by kernel_rfl
theorem w_heldHeldS.f_eq (k : Nat) (a : List (Int × Int)) (k_ : Int) : w_heldHeldS.f k a k_ =
 w_heldHeldS.l0 k k a k_ ((0 : Int)) := (opq_eq _).trans (by kernel_rfl)
abbrev w_heldRooms.s : Sig := ⟨16, [], [.val, .val], [.agg [.row 30 (.sl 3 (.int .i64)), .row 49 (.pair (.int .i64) (.int .i64))], .one (.int .i64)], [.one (.int .i64)], [], []⟩
noncomputable def w_heldRooms.C (k : Nat) : List (Nat × Ctr) := [(52, w_heldIntSS.s.ctr (fun x => w_heldIntSS.f k x.1 x.2)), (53, w_heldHeldS.s.ctr (fun x => w_heldHeldS.f k x.1 x.2))]
noncomputable def w_heldRooms.f (k : Nat) (a_Free : List (List Int)) (a_Held : List (Int × Int)) (k_ : Int) : Option Int := opq (w_heldRooms.s.run Try.prog (w_heldRooms.C k) k ((a_Free, a_Held), k_))
theorem w_heldRooms.ok (k : Nat) : CtrOk Try.prog 16 (w_heldRooms.s.ctr (fun x => w_heldRooms.f k x.1.1 x.1.2 x.2)) := sig_ok w_heldRooms.s (.cons (w_heldIntSS.ok k) (.cons (w_heldHeldS.ok k) .nil)) (by kernel_rfl) fun _ => opq_eq _
theorem w_heldRooms.f_eq (k : Nat) (a_Free : List (List Int)) (a_Held : List (Int × Int)) (k_ : Int) : w_heldRooms.f k a_Free a_Held k_ =
 (w_heldIntSS.f k a_Free k_).bind fun d0 =>
 cn (decide (d0 < (0 : Int)))
 (some ((-1 : Int)))
 ((w_heldHeldS.f k a_Held d0).bind fun d1 =>
  cn (decide (d1 < (0 : Int)))
  (some ((-1 : Int)))
  (some d1)) := (opq_eq _).trans (by kernel_rfl)
abbrev w_FnExactNewRooms.s : Sig := ⟨3, [], [], [], [.one .bool], [], []⟩
noncomputable def w_FnExactNewRooms.C (k : Nat) : List (Nat × Ctr) := [(12, s_NewRooms.s.ctr (fun _ => s_NewRooms.f k)), (13, i_NewRooms.s.ctr (fun _ => i_NewRooms.f k)), (14, w_eqRooms.s.ctr (fun x => w_eqRooms.f k x.1.1 x.1.2 x.2.1 x.2.2)), (15, w_markRooms.s.ctr (fun x => w_markRooms.f k x.1 x.2.1 x.2.2)), (16, w_heldRooms.s.ctr (fun x => w_heldRooms.f k x.1.1 x.1.2 x.2))]
noncomputable def w_FnExactNewRooms.f (k : Nat)  : Option Bool := opq (w_FnExactNewRooms.s.run Try.prog (w_FnExactNewRooms.C k) k ())
theorem w_FnExactNewRooms.ok (k : Nat) : CtrOk Try.prog 3 (w_FnExactNewRooms.s.ctr (fun _ => w_FnExactNewRooms.f k)) := sig_ok w_FnExactNewRooms.s (.cons (s_NewRooms.ok k) (.cons (i_NewRooms.ok k) (.cons (w_eqRooms.ok k) (.cons (w_markRooms.ok k) (.cons (w_heldRooms.ok k) .nil))))) (by kernel_rfl) fun _ => opq_eq _
theorem w_FnExactNewRooms.f_eq (k : Nat) : w_FnExactNewRooms.f k =
 (s_NewRooms.f k).bind fun d0 =>
 (i_NewRooms.f k).bind fun d1 =>
 (w_eqRooms.f k d1.fst d1.snd d0.fst d0.snd).bind fun d2 =>
 cn (!d2)
 (some false)
 ((w_markRooms.f k d1.fst d1.snd (1 : Int)).bind fun d3 =>
  (w_heldRooms.f k d3.snd.fst d3.snd.snd (1 : Int)).bind fun d4 =>
  cn (decide (d4 < (0 : Int)))
  (some false)
  (cn (!decide (d4 = d3.fst))
   (some false)
   ((i_NewRooms.f k).bind fun d5 =>
    (w_eqRooms.f k d5.fst d5.snd d0.fst d0.snd).bind fun d6 =>
    cn (!d6)
    (some false)
    ((w_heldRooms.f k d3.snd.fst d3.snd.snd (1 : Int)).bind fun d7 =>
     cn (decide (d7 < (0 : Int)))
     (some false)
     (cn (!decide (d7 = d3.fst))
      (some false)
      (some true)))))) := (opq_eq _).trans (by kernel_rfl)
end Go.Proofs.Ytlkbmcmglkdciaa
