/- The walk of OutqOfNothing. -/
import Derived.Test.YtnijemjfbghhmaaOutq6
namespace Go.Proofs.Ytnijemjfbghhmaa
open Go.RowKit
set_option maxHeartbeats 400000 in
theorem outqOfNothing_walk (w : World) (bv : Value) (b : List Int) (hb : CellsIn w [] bv (b.map (.int .u8))) (_ : ∀ n ∈ b, (Lit.int .u8 n).wf = true) (n : Int) (_ : (Lit.int .i64 n).wf = true) :
    Calls Try.prog 6 #[bv, .int .i64 n] w fun e w' => e = .returned (.bool true) ∧ Below w.heap.size w w' := by
  obtain ⟨A, c, rfl, h1, h2⟩ := hb.shape
  simp only [List.length_map] at hb h1 ⊢
  have h3 : b.length ≤ 9223372036854775807 := by omega
  by_cases hbig : 6000 < b.length
  · have hbig' : (6000 : Int) < b.length := by omega
    go_enter Try.func6, Try.ntmps6
    go_wp2
    go_ret
    exact ⟨rfl, Below.refl _ _⟩
  · have hbig' : ¬ (6000 : Int) < b.length := by omega
    go_enter Try.func6, Try.ntmps6
    go_wp2_with (first
      | (go_at_call 9; refine (add_nil _ _).mono ?_; rintro e w1 ⟨rfl, rfl⟩)
      | (go_at_call 10; refine (next_nil _ _).mono ?_; rintro e w2 ⟨A2, c2, rfl, hk2⟩)
      | (go_at_call 12; refine (done_nil _ _).mono ?_; rintro e w3 ⟨rfl, rfl⟩)
      | (go_at_call 13; refine (qlen_nil _).mono ?_; rintro e w4 ⟨rfl, rfl⟩)
      | (go_at_call 14; refine (left_nil _).mono ?_; rintro e w5 ⟨rfl, rfl⟩)
      | (go_at_call 24; refine (drop_nil _).mono ?_; rintro e w6 ⟨rfl, rfl⟩)
      | (go_at_call 15; refine (known_any _).mono ?_; rintro e w7 ⟨rfl, hk⟩))
    go_ret
    exact ⟨rfl, ((((Keeps.refl [] w).alloc _).trans hk2 (by simp)).trans hk (by simp)).below (Nat.le_refl _) (by simp)⟩
end Go.Proofs.Ytnijemjfbghhmaa
