/- slices.IndexFunc and slices.ContainsFunc with a function that may lay blocks of its own and turns nothing. No condition. -/
import Derived.Test.YtgnijlfakjjfcaaProg
import Derived.Test.YtgnijlfakjjfcaaWWords
import Derived.WalkKit
import Derived.Below
import Derived.Shelf.Abstract
import Derived.Deep.LoopGhost
import Derived.Deep.Draws
namespace Go.Proofs.Ytgnijlfakjjfcaa.Find0
open Go.RowKit Go.Proofs.YtgnijlfakjjfcaaW.PrintWords

/-- Whether p holds somewhere below n. -/
def some' (p : Nat → Bool) : Nat → Bool
  | 0 => false
  | n + 1 => some' p n || p n
theorem some_false (p : Nat → Bool) (n : Nat) (h : ∀ j, j < n → p j = false) : some' p n = false := by
  induction n with
  | zero => rfl
  | succ n ih => simp only [some', ih (fun j hj => h j (by omega)), h n (by omega), Bool.or_false]
theorem some_true (p : Nat → Bool) (n j : Nat) (hj : j < n) (h : p j = true) : some' p n = true := by
  induction n with
  | zero => omega
  | succ n ih =>
    by_cases e : j = n
    · subst e
      simp only [some', h, Bool.or_true]
    · simp only [some', ih (by omega), Bool.true_or]

set_option maxHeartbeats 4000000 in
theorem idx93 (g : Nat) (lb : Array Value) (eg : ∀ args w, (callFunc g args).run Try.prog w = .ok (.enter g args) w) (A : Option Addr) (n c : Nat) (val : Nat → Value) (p : Nat → Bool) (w : World)
    (hbig : n ≤ 9223372036854775807)
    (hp : ∀ W i, i < n → Below w.heap.size w W → Calls Try.prog g (#[val i] ++ lb) W fun e w' => e = .returned (.bool (p i)) ∧ Below W.heap.size W w')
    (hc : ∀ W i, i < n → Below w.heap.size w W → ∃ ad, A = some ad ∧ W.cell? (ad.add i) = some (val i)) :
    Calls Try.prog 93 #[.slice A n c, .func (.func g) #[] lb] w fun e w' => ∃ t : Int, e = .returned (.int .i64 t) ∧ Below w.heap.size w w' ∧ decide (t ≥ 0) = some' p n := by
  go_enter Try.func93, Try.ntmps93
  go_wp2
  go_loopg [5, 8] n (fun gg _ s8 wr => ∃ kk : Nat, kk ≤ n ∧ n - kk ≤ gg ∧ s8 = .int .i64 kk ∧ Aside (Below w.heap.size w wr) ∧ Aside (∀ j, j < kk → p j = false))
  case atStart => exact ⟨0, Nat.zero_le _, by omega, rfl, Below.refl _ _, fun j hj => absurd hj (Nat.not_lt_zero _)⟩
  case round =>
    obtain ⟨kk, hkk, hg, rfl, HB, HA⟩ := hrel
    by_cases hlt : kk < n
    · have hltz : (kk : Int) < (n : Int) := by omega
      have h0 : (0 : Int) ≤ (kk : Int) := by omega
      obtain ⟨ad, rfl, hx⟩ := hc wr kk hlt HB.out
      have hcall := hp wr kk hlt HB.out
      have hq : ∃ b, p kk = b := ⟨_, rfl⟩
      obtain ⟨b, hq⟩ := hq
      rw [hq] at hcall
      have HC := Aside0.mk hcall
      clear hcall hp hc
      cases b with
      | true =>
        go_wp2_with (go_at_fn g; refine (HC.out).mono ?_; rintro e w' ⟨rfl, hb⟩)
        go_ret
        exact ⟨_, rfl, below_step HB.out hb, by rw [some_true p n kk hlt hq]; simp⟩
      | false =>
        go_wp2_with (go_at_fn g; refine (HC.out).mono ?_; rintro e w' ⟨rfl, hb⟩)
        go_roundg (n - (kk + 1))
        case measure => omega
        case rel =>
          refine ⟨kk + 1, by omega, by omega, by go_num, below_step HB.out hb, fun j hj => ?_⟩
          by_cases e : j = kk
          · subst e
            exact hq
          · exact HA.out j (by omega)
    · have hltz : ¬ (kk : Int) < (n : Int) := by omega
      have : kk = n := by omega
      subst this
      go_wp2
      go_ret
      refine ⟨_, rfl, HB.out, ?_⟩
      rw [some_false p kk HA.out]
      decide
theorem con70 (g : Nat) (lb : Array Value) (eg : ∀ args w, (callFunc g args).run Try.prog w = .ok (.enter g args) w) (A : Option Addr) (n c : Nat) (val : Nat → Value) (p : Nat → Bool) (w : World)
    (hbig : n ≤ 9223372036854775807)
    (hp : ∀ W i, i < n → Below w.heap.size w W → Calls Try.prog g (#[val i] ++ lb) W fun e w' => e = .returned (.bool (p i)) ∧ Below W.heap.size W w')
    (hc : ∀ W i, i < n → Below w.heap.size w W → ∃ ad, A = some ad ∧ W.cell? (ad.add i) = some (val i)) :
    Calls Try.prog 70 #[.slice A n c, .func (.func g) #[] lb] w fun e w' => e = .returned (.bool (some' p n)) ∧ Below w.heap.size w w' := by
  have e1 : ∀ args w, (callFunc 93 args).run Try.prog w = .ok (.enter 93 args) w := enters_of Try.func93 (by kernel_rfl) rfl
  go_enter Try.func70, Try.ntmps70
  go_wp2_with (go_at_fn 93; refine (idx93 g lb eg A n c val p _ hbig hp hc).mono ?_; rintro e w' ⟨t, rfl, hb, ht⟩)
  go_ret
  exact ⟨by rw [← ht]; rfl, hb⟩

set_option maxHeartbeats 4000000 in
theorem idx88 (g : Nat) (lb : Array Value) (eg : ∀ args w, (callFunc g args).run Try.prog w = .ok (.enter g args) w) (A : Option Addr) (n c : Nat) (val : Nat → Value) (p : Nat → Bool) (w : World)
    (hbig : n ≤ 9223372036854775807)
    (hp : ∀ W i, i < n → Below w.heap.size w W → Calls Try.prog g (#[val i] ++ lb) W fun e w' => e = .returned (.bool (p i)) ∧ Below W.heap.size W w')
    (hc : ∀ W i, i < n → Below w.heap.size w W → ∃ ad, A = some ad ∧ W.cell? (ad.add i) = some (val i)) :
    Calls Try.prog 88 #[.slice A n c, .func (.func g) #[] lb] w fun e w' => ∃ t : Int, e = .returned (.int .i64 t) ∧ Below w.heap.size w w' ∧ decide (t ≥ 0) = some' p n := by
  go_enter Try.func88, Try.ntmps88
  go_wp2
  go_loopg [5, 8] n (fun gg _ s8 wr => ∃ kk : Nat, kk ≤ n ∧ n - kk ≤ gg ∧ s8 = .int .i64 kk ∧ Aside (Below w.heap.size w wr) ∧ Aside (∀ j, j < kk → p j = false))
  case atStart => exact ⟨0, Nat.zero_le _, by omega, rfl, Below.refl _ _, fun j hj => absurd hj (Nat.not_lt_zero _)⟩
  case round =>
    obtain ⟨kk, hkk, hg, rfl, HB, HA⟩ := hrel
    by_cases hlt : kk < n
    · have hltz : (kk : Int) < (n : Int) := by omega
      have h0 : (0 : Int) ≤ (kk : Int) := by omega
      obtain ⟨ad, rfl, hx⟩ := hc wr kk hlt HB.out
      have hcall := hp wr kk hlt HB.out
      have hq : ∃ b, p kk = b := ⟨_, rfl⟩
      obtain ⟨b, hq⟩ := hq
      rw [hq] at hcall
      have HC := Aside0.mk hcall
      clear hcall hp hc
      cases b with
      | true =>
        go_wp2_with (go_at_fn g; refine (HC.out).mono ?_; rintro e w' ⟨rfl, hb⟩)
        go_ret
        exact ⟨_, rfl, below_step HB.out hb, by rw [some_true p n kk hlt hq]; simp⟩
      | false =>
        go_wp2_with (go_at_fn g; refine (HC.out).mono ?_; rintro e w' ⟨rfl, hb⟩)
        go_roundg (n - (kk + 1))
        case measure => omega
        case rel =>
          refine ⟨kk + 1, by omega, by omega, by go_num, below_step HB.out hb, fun j hj => ?_⟩
          by_cases e : j = kk
          · subst e
            exact hq
          · exact HA.out j (by omega)
    · have hltz : ¬ (kk : Int) < (n : Int) := by omega
      have : kk = n := by omega
      subst this
      go_wp2
      go_ret
      refine ⟨_, rfl, HB.out, ?_⟩
      rw [some_false p kk HA.out]
      decide
theorem con48 (g : Nat) (lb : Array Value) (eg : ∀ args w, (callFunc g args).run Try.prog w = .ok (.enter g args) w) (A : Option Addr) (n c : Nat) (val : Nat → Value) (p : Nat → Bool) (w : World)
    (hbig : n ≤ 9223372036854775807)
    (hp : ∀ W i, i < n → Below w.heap.size w W → Calls Try.prog g (#[val i] ++ lb) W fun e w' => e = .returned (.bool (p i)) ∧ Below W.heap.size W w')
    (hc : ∀ W i, i < n → Below w.heap.size w W → ∃ ad, A = some ad ∧ W.cell? (ad.add i) = some (val i)) :
    Calls Try.prog 48 #[.slice A n c, .func (.func g) #[] lb] w fun e w' => e = .returned (.bool (some' p n)) ∧ Below w.heap.size w w' := by
  have e1 : ∀ args w, (callFunc 88 args).run Try.prog w = .ok (.enter 88 args) w := enters_of Try.func88 (by kernel_rfl) rfl
  go_enter Try.func48, Try.ntmps48
  go_wp2_with (go_at_fn 88; refine (idx88 g lb eg A n c val p _ hbig hp hc).mono ?_; rintro e w' ⟨t, rfl, hb, ht⟩)
  go_ret
  exact ⟨by rw [← ht]; rfl, hb⟩

end Go.Proofs.Ytgnijlfakjjfcaa.Find0
