/- Walks of the ring's small functions. -/
import Derived.Test.YtkcncnbjojejeaaBase
import Derived.Test.YtkcncnbjojejeaaRows
import Derived.Deep.QuietTactic
import Derived.BigQuiet
import Derived.StillTailTactics
import Derived.Deep.LoopGhost
namespace Go.Proofs.Ytkcncnbjojejeaa
open Go.RowKit

theorem len_nil (w : World) : Calls Try.prog 28 #[.pointer none] w fun e w' => e = .returned (.int .i64 0) ∧ w = w' := by
  go_enter Try.func28, Try.ntmps28
  go_wp2
  go_ret
  exact ⟨rfl, rfl⟩
theorem len_any (a : Nat) (n : Int) (w : World) (h : w.cell? ⟨a, 2, none⟩ = some (.int .i64 n)) :
    Calls Try.prog 28 #[.pointer (some ⟨a, 0, none⟩)] w fun e w' => e = .returned (.int .i64 n) ∧ w = w' := by
  go_enter Try.func28, Try.ntmps28
  go_wp2
  go_ret
  exact ⟨rfl, rfl⟩
theorem room_nil (w : World) : Calls Try.prog 29 #[.pointer none] w fun e w' => e = .returned (.int .i64 0) ∧ w = w' := by
  go_enter Try.func29, Try.ntmps29
  go_wp2
  go_ret
  exact ⟨rfl, rfl⟩
theorem room_any (a : Nat) (n : Int) (S C : Nat) (A : Option Addr) (w : World) (h0 : w.cell? ⟨a, 0, none⟩ = some (.slice A S C)) (h : w.cell? ⟨a, 2, none⟩ = some (.int .i64 n))
    (hn0 : 0 ≤ n) (hn : n ≤ S) (hS : S ≤ 65536) :
    Calls Try.prog 29 #[.pointer (some ⟨a, 0, none⟩)] w fun e w' => e = .returned (.int .i64 (S - n)) ∧ ∃ k, w' = w.drewN k := by
  go_enter Try.func29, Try.ntmps29
  go_wp2
  go_quiet (fail)
  go_wp2
  go_ret
  exact ⟨rfl, _, rfl⟩
theorem at_any (a : Nat) (f i : Int) (S C : Nat) (A : Option Addr) (w : World) (h0 : w.cell? ⟨a, 0, none⟩ = some (.slice A S C)) (h : w.cell? ⟨a, 1, none⟩ = some (.int .i64 f))
    (hf0 : 0 ≤ f) (hi0 : 0 ≤ i) (hf : f ≤ 65536) (hi : i ≤ 65536) (hS : S ≤ 65536) (hS0 : 1 ≤ S) :
    Calls Try.prog 39 #[.pointer (some ⟨a, 0, none⟩), .int .i64 i] w fun e w' => e = .returned (.int .i64 ((f + i) % S)) ∧ ∃ k, w' = w.drewN k := by
  have hz : ((S : Int) == 0) = false := by simp; omega
  go_enter Try.func39, Try.ntmps39
  go_wp2
  go_quiet (fail)
  go_wp2
  go_ret
  exact ⟨rfl, _, rfl⟩
/-- The same, the place under a name of its own. -/
theorem at_nat (a f i m : Nat) (S C : Nat) (A : Option Addr) (w : World) (hm : Hid ((f + i) % S = m)) (h0 : w.cell? ⟨a, 0, none⟩ = some (.slice A S C)) (h : w.cell? ⟨a, 1, none⟩ = some (.int .i64 f))
    (hf : f ≤ 65536) (hi : i ≤ 65536) (hS : S ≤ 65536) (hS0 : 1 ≤ S) :
    Calls Try.prog 39 #[.pointer (some ⟨a, 0, none⟩), .int .i64 i] w fun e w' => e = .returned (.int .i64 m) ∧ ∃ k, w' = w.drewN k := by
  refine (at_any a f i S C A w h0 h (by omega) (by omega) (by omega) (by omega) hS hS0).mono ?_
  rintro e w' ⟨rfl, hw⟩
  refine ⟨?_, hw⟩
  rw [← hm.out, Int.natCast_emod, Int.natCast_add]
end Go.Proofs.Ytkcncnbjojejeaa
