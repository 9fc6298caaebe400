/- The walk of RingOfNothing. -/
import Derived.Test.YtkcncnbjojejeaaNil3
namespace Go.Proofs.Ytkcncnbjojejeaa
open Go.RowKit
set_option maxHeartbeats 400000 in
theorem ringOfNothing_walk (w : World) (bv : Value) (b : List Int) (hb : CellsIn w [] bv (b.map (.int .u8))) (_ : ∀ n ∈ b, (Lit.int .u8 n).wf = true) (n : Int) (_ : (Lit.int .i64 n).wf = true) :
    Calls Try.prog 5 #[bv, .int .i64 n] w fun e w' => e = .returned (.bool true) ∧ Below w.heap.size w w' := by
  obtain ⟨A, c, rfl, h1, h2⟩ := hb.shape
  simp only [List.length_map] at hb h1 ⊢
  have h3 : b.length ≤ 9223372036854775807 := by omega
  by_cases hbig : 6000 < b.length
  · have hbig' : (6000 : Int) < b.length := by omega
    go_enter Try.func5, Try.ntmps5
    go_wp2
    go_ret
    exact ⟨rfl, Below.refl _ _⟩
  · have hbig' : ¬ (6000 : Int) < b.length := by omega
    have hcell := CellsIn.newM w [] [.slice A b.length c] 32 (0, 0) (by simp) (by simp)
    go_enter Try.func5, Try.ntmps5
    go_wp2_with fail
    refine (write_nil _ A b.length c _ (by simpa using hcell) h3).mono ?_
    rintro e w1 ⟨rfl, rfl⟩
    clear hcell
    go_wp2_with (first
      | (go_at_call 23; refine (peek_nil _ _).mono ?_; rintro e w1 ⟨rfl, rfl⟩)
      | (go_at_call 21; refine (skip_nil _ _).mono ?_; rintro e w1 ⟨rfl, rfl⟩)
      | (go_at_call 26; refine (find_nil _ _).mono ?_; rintro e w1 ⟨rfl, rfl⟩)
      | (go_at_call 28; refine (len_nil _).mono ?_; rintro e w1 ⟨rfl, rfl⟩)
      | (go_at_call 29; refine (room_nil _).mono ?_; rintro e w1 ⟨rfl, rfl⟩)
      | (go_at_call 13; refine (known_any _).mono ?_; rintro e w1 ⟨rfl, hk⟩))
    go_ret
    exact ⟨rfl, (((Keeps.refl [] w).alloc _).trans hk (by simp)).below (Nat.le_refl _) (by simp)⟩
end Go.Proofs.Ytkcncnbjojejeaa
