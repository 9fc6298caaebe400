/- The walk of PollOfNothing. -/
import Derived.Test.YtkeffebcmajhmaaPoll13
namespace Go.Proofs.Ytkeffebcmajhmaa
open Go.RowKit
set_option linter.unusedVariables false
set_option maxRecDepth 100000 in
set_option maxHeartbeats 4000000 in
theorem pollOfNothing_walk (w : World) (c : Int) (_ : (Lit.int .i64 c).wf = true) (i g : Int) :
    Calls Try.prog 11 #[.int .i64 c, .agg #[.int .i64 i, .int .i64 g]] w fun e w' => e = .returned (.bool true) ∧ Below w.heap.size w w' := by
  have heq : ∀ (a b c d : Int) (w : World), (Op.equalIn 10000 30 (.agg #[.int .i64 a, .int .i64 b]) (.agg #[.int .i64 c, .int .i64 d])).run Try.prog w = .ok (a == c && b == d) w := run_eqH
  go_enter Try.func11, Try.ntmps11
  go_wp2_with fail
  refine (watch_nil _ _ _ _ _).mono ?_
  rintro e w1 ⟨rfl, hk1⟩
  have k1 : Keeps [] w w1 := ((Keeps.refl [] w).alloc _).trans hk1 (by simp)
  have a0 : w1.cell? ⟨w.heap.size, 0, none⟩ = some (.int .i64 i) := cell_keep hk1 (by simp) (by simp)
  have a1 : w1.cell? ⟨w.heap.size, 1, none⟩ = some (.int .i64 g) := cell_keep hk1 (by simp) (by simp)
  clear hk1
  go_wp2_with fail
  refine (pnew_nil _).mono ?_
  rintro e w2 ⟨rfl, hk2⟩
  have k2 := (k1.alloc (.cells #[.int .i64 0, .int .i64 0] 30)).trans hk2 (by simp)
  have b0 := cell_keep hk2 (by simp) (alloc_cell a0 (.cells #[.int .i64 0, .int .i64 0] 30))
  have b1 := cell_keep hk2 (by simp) (alloc_cell a1 (.cells #[.int .i64 0, .int .i64 0] 30))
  have d0 : w2.cell? ⟨w1.heap.size, 0, none⟩ = some (.int .i64 0) := cell_keep hk2 (by simp) (by simp)
  have d1 : w2.cell? ⟨w1.heap.size, 1, none⟩ = some (.int .i64 0) := cell_keep hk2 (by simp) (by simp)
  clear hk2 k1 a0 a1
  have e0 := fun o => alloc_cell b0 o
  have e1 := fun o => alloc_cell b1 o
  go_wp2_with fail
  refine (change_nil _ _ _ _ _).mono ?_
  rintro e w3 ⟨rfl, hk3⟩
  have k3 := k2.trans hk3 (by simp)
  have g0 := cell_keep hk3 (by simp) b0
  have g1 := cell_keep hk3 (by simp) b1
  clear hk3 k2 b0 b1 d0 d1 e0 e1
  go_wp2_with fail
  refine (drop_nil _ _).mono ?_
  rintro e w4 ⟨rfl, hk4⟩
  have k4 := (k3.alloc (.cells #[.int .i64 i, .int .i64 g] 30)).trans hk4 (by simp)
  clear hk4 k3 g0 g1
  go_wp2_with fail
  refine (wait_nil _ _).mono ?_
  rintro e w5 ⟨rfl, hk5⟩
  have k5 := (k4.alloc (.cells #[.int .i64 c] 3)).trans hk5 (by simp)
  clear hk5 k4
  go_wp2_with fail
  refine (watched_nil _).mono ?_
  rintro e w6 ⟨rfl, hk6⟩
  have k6 := k5.trans hk6 (by simp)
  clear hk6 k5
  go_wp2_with fail
  refine (pknown_any _).mono ?_
  rintro e w7 ⟨rfl, hk7⟩
  have k7 := k6.trans hk7 (by simp)
  clear hk7 k6
  go_wp2_with fail
  go_ret
  exact ⟨rfl, k7.below (Nat.le_refl _) (by simp)⟩
end Go.Proofs.Ytkeffebcmajhmaa
