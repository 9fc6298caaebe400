/- The slab: at, Get, Set, Len by contract. -/
import Derived.Test.YtkeffebcmajhmaaSlab1
namespace Go.Proofs.Ytkeffebcmajhmaa
open Go.RowKit
set_option linter.unusedVariables false
theorem alloc_cell {w : World} {p : Addr} {v : Value} (h : w.cell? p = some v) (o : Obj) : (w.alloc o).cell? p = some v :=
  (World.cell?_of_block (w := w) (Below.heap_alloc w o _ (World.block_lt_of_cell? w p h))).trans h
/-- where the slots lie. -/
theorem SRep.opened {w : World} {s : Nat} {F : List Nat} {lim n : Int} {L : List Slot} (h : SRep w s F lim L n) : ∃ A cap, w.cell? ⟨s, 1, none⟩ = some (.slice A L.length cap) ∧ L.length ≤ cap ∧ cap ≤ 9223372036854775807 ∧
    (0 < L.length → ∃ b off, A = some ⟨b, off, none⟩ ∧ ∀ k d, L[k]? = some d → w.cell? ⟨b, off + k * 3, none⟩ = some (.int .i64 d.1) ∧ w.cell? ⟨b, off + k * 3 + 1, none⟩ = some (.bool d.2.1) ∧ w.cell? ⟨b, off + k * 3 + 2, none⟩ = some (.int .i64 d.2.2)) := by
  obtain ⟨vs, h1, h2, -⟩ := h
  obtain ⟨A, cap, rfl, hl, hm, -⟩ := h2.form
  refine ⟨A, cap, by simpa using h1.cell 1, hl, by simpa [maxLen] using hm, fun hp => ?_⟩
  obtain ⟨b, off, cap', hv, -, -, hc, -⟩ := h2.open_ hp
  injection hv with hA
  subst hA
  refine ⟨b, off, rfl, fun k d hd => ?_⟩
  obtain ⟨g0, g1, g2⟩ := slotsV_get L k d hd
  exact ⟨hc _ _ g0, by rw [Nat.add_assoc]; exact hc _ _ g1, by rw [Nat.add_assoc]; exact hc _ _ g2⟩
theorem at_nil (i g : Int) (w : World) : Calls Try.prog 71 #[.pointer none, .agg #[.int .i64 i, .int .i64 g]] w fun e w' => e = .returned (.pointer none) ∧ Keeps [] w w' := by
  go_enter Try.func71, Try.ntmps71
  go_wp2_with fail
  go_quiet (fail)
  go_wp2
  go_ret
  exact ⟨rfl, ((Keeps.refl [] w).alloc _).drewN _⟩
theorem at_hit (s : Nat) (k : Nat) (g : Int) (b off n cap : Nat) (w : World) (hv : w.cell? ⟨s, 1, none⟩ = some (.slice (some ⟨b, off, none⟩) n cap)) (hk : k < n)
    (hg : w.cell? ⟨b, off + k * 3, none⟩ = some (.int .i64 g)) (hu : w.cell? ⟨b, off + k * 3 + 1, none⟩ = some (.bool true)) :
    Calls Try.prog 71 #[.pointer (some ⟨s, 0, none⟩), .agg #[.int .i64 k, .int .i64 g]] w fun e w' => e = .returned (.pointer (some ⟨b, off + k * 3, none⟩)) ∧ Keeps [] w w' := by
  have hki : (k : Int) < n := by omega
  have n1 := fun o => alloc_cell hv o
  have n2 := fun o => alloc_cell hg o
  have n3 := fun o => alloc_cell hu o
  clear hv hg hu
  go_enter Try.func71, Try.ntmps71
  go_wp2_with fail
  go_quiet (fail)
  go_wp2_with fail
  go_quiet (fail)
  go_wp2_with fail
  go_quiet (fail)
  go_wp2_with fail
  go_ret
  exact ⟨rfl, by (repeat (first | exact Keeps.refl _ _ | apply Keeps.drewN | apply Keeps.alloc))⟩
theorem at_out (s : Nat) (i g : Int) (A : Option Addr) (n cap : Nat) (w : World) (hv : w.cell? ⟨s, 1, none⟩ = some (.slice A n cap)) (hi : i < 0 ∨ (0 ≤ i ∧ (n : Int) ≤ i)) :
    Calls Try.prog 71 #[.pointer (some ⟨s, 0, none⟩), .agg #[.int .i64 i, .int .i64 g]] w fun e w' => e = .returned (.pointer none) ∧ Keeps [] w w' := by
  have n1 := fun o => alloc_cell hv o
  clear hv
  rcases hi with h | ⟨h0, h⟩
  · have hd : decide (i < 0) = true := by simpa using h
    go_enter Try.func71, Try.ntmps71
    go_wp2_with fail
    go_quiet (fail)
    go_wp2_with fail
    go_ret
    exact ⟨rfl, by (repeat (first | exact Keeps.refl _ _ | apply Keeps.drewN | apply Keeps.alloc))⟩
  · have hd : decide (i < 0) = false := by simp; omega
    have hd2 : decide ((n : Int) ≤ i) = true := by simpa using h
    go_enter Try.func71, Try.ntmps71
    go_wp2_with fail
    go_quiet (fail)
    go_wp2_with fail
    go_ret
    exact ⟨rfl, by (repeat (first | exact Keeps.refl _ _ | apply Keeps.drewN | apply Keeps.alloc))⟩
theorem at_miss (s : Nat) (k : Nat) (g g' : Int) (u : Bool) (b off n cap : Nat) (w : World) (hv : w.cell? ⟨s, 1, none⟩ = some (.slice (some ⟨b, off, none⟩) n cap)) (hk : k < n)
    (hg : w.cell? ⟨b, off + k * 3, none⟩ = some (.int .i64 g')) (hu : w.cell? ⟨b, off + k * 3 + 1, none⟩ = some (.bool u)) (hm : u = false ∨ (u = true ∧ g' ≠ g)) :
    Calls Try.prog 71 #[.pointer (some ⟨s, 0, none⟩), .agg #[.int .i64 k, .int .i64 g]] w fun e w' => e = .returned (.pointer none) ∧ Keeps [] w w' := by
  have hki : (k : Int) < n := by omega
  rcases hm with rfl | ⟨rfl, hne⟩
  all_goals
    have n1 := fun o => alloc_cell hv o
    have n2 := fun o => alloc_cell hg o
    have n3 := fun o => alloc_cell hu o
    clear hv hg hu
    try have hd : (g' == g) = false := by simpa using hne
    go_enter Try.func71, Try.ntmps71
    go_wp2_with fail
    go_quiet (fail)
    go_wp2_with fail
    go_quiet (fail)
    go_wp2_with fail
    go_quiet (fail)
    go_wp2_with fail
    go_ret
    exact ⟨rfl, by (repeat (first | exact Keeps.refl _ _ | apply Keeps.drewN | apply Keeps.alloc))⟩
end Go.Proofs.Ytkeffebcmajhmaa
