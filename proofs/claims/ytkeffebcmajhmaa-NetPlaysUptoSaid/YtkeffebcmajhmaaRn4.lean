/- The reference's net: State by contract. -/
import Derived.Test.YtkeffebcmajhmaaRn3
namespace Go.Proofs.Ytkeffebcmajhmaa
open Go.RowKit
set_option linter.unusedVariables false
set_option linter.unusedSimpArgs false
set_option maxHeartbeats 4000000 in
theorem rstate_any (n : Nat) (F : List Nat) (N : NS) (k : Int) (w : World) (h : NRep rc w n F N) :
    Calls Try.prog 96 #[.pointer (some ⟨n, 0, none⟩), .int .i64 k] w fun e w' => e = .returned (.agg #[.bool (stateN N k).1, .bool (stateN N k).2.1, .bool (stateN N k).2.2.1, .int .i64 (stateN N k).2.2.2]) ∧ Keeps [] w w' := by
  obtain ⟨own, ps, vc, vq, h⟩ := h
  have n1 := h.blk.cell 1
  simp [rc] at n1
  have m1 := fun o => alloc_cell n1 o
  unfold stateN
  rcases h.which k with hk | ⟨i, p, d, rfl, hp, hd⟩
  · rw [cnAt_none hk]
    obtain ⟨A, cap, rfl, -⟩ := h.rc.form
    have hk := rno_cases h hk
    clear h
    simp only
    rcases hk with d0 | ⟨d0, d1⟩
    all_goals
      go_enter Try.func96, Try.ntmps96
      go_wp2_with fail
      refine bodyPost_ret (v := .agg #[.bool false, .bool false, .bool false, .int .i64 0]) (by simp [results, Try.results96, go_sem]) rfl ⟨rfl, ?_⟩
      (repeat (first | exact Keeps.refl _ _ | exact .inr (Nat.le_refl _) | apply Keeps.drewN | apply Keeps.drew | apply Keeps.alloc | apply Keeps.setCell))
  · rw [cnAt_some hd]
    obtain ⟨p, b, off, cap, -, rfl, hkl, hle, hcap, hcell, hbn, vi, vo, vt, hc⟩ := h.conn hd
    have c0 := hc.1.cell 0
    have c1 := hc.1.cell 1
    have c2 := hc.1.cell 2
    have c4 := hc.1.cell 4
    simp [rc] at c0 c1 c2 c4
    have e0 := fun o => alloc_cell c0 o
    have e1 := fun o => alloc_cell c1 o
    have e2 := fun o => alloc_cell c2 o
    have e4 := fun o => alloc_cell c4 o
    have ec := fun o => alloc_cell hcell o
    have hki : (i : Int) < N.cs.length := by omega
    have d0 : decide ((i : Int) < 0) = false := by simp
    have d1 : decide ((N.cs.length : Int) ≤ (i : Int)) = false := by simp; omega
    have hpw := hc.1.lt
    clear h hc hp hd
    simp only
    go_enter Try.func96, Try.ntmps96
    go_wp2_with fail
    go_region_law (fail)
    all_goals
      go_wp2_with fail
      refine bodyPost_ret (v := .agg #[.bool d.waits, .bool d.opn, .bool d.broken, .int .i64 d.peer]) (by simp [results, Try.results96, go_sem]) rfl ⟨rfl, ?_⟩
      (repeat (first | exact Keeps.refl _ _ | exact .inr (Nat.le_refl _) | apply Keeps.drewN | apply Keeps.drew | apply Keeps.alloc | apply Keeps.setCell))
end Go.Proofs.Ytkeffebcmajhmaa
