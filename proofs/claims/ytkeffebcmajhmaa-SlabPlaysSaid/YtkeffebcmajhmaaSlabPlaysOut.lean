/- SlabPlays whole: limits that are none too. -/
import Derived.Test.YtkeffebcmajhmaaSlabPlaysWalk
import Derived.Test.YtkeffebcmajhmaaSOpen
namespace Go.Proofs.Ytkeffebcmajhmaa
open Go.RowKit
set_option linter.unusedVariables false
set_option maxRecDepth 100000 in
set_option maxHeartbeats 1000000 in
theorem slabPlays_out (w : World) (lim : Int) (h : lim < 1 ∨ (1 ≤ lim ∧ 4096 < lim)) (lv : Value) :
    Calls Try.prog 5 #[.int .i64 lim, lv] w fun e w' => e = .returned (.bool true) ∧ Below w.heap.size w w' := by
  have H1 := hid (snew_bad lim w h)
  have H2 := hid (rsnew_bad lim w h)
  clear h
  go_enter Try.func5, Try.ntmps5
  go_wp2_with (first
    | (go_at_call 19; refine H1.out.mono ?_; rintro e w2 ⟨rfl, rfl⟩)
    | (go_at_call 25; refine H2.out.mono ?_; rintro e w3 ⟨rfl, rfl⟩)
    | (go_at_call 18; refine (sknown_any _).mono ?_; rintro e w5 ⟨rfl, hk5⟩))
  go_ret
  exact ⟨rfl, hk5.below (Nat.le_refl _) (by simp)⟩
theorem slabPlays_walk (w : World) (lim : Int) (_ : (Lit.int .i64 lim).wf = true) (lv : Value) (l : List SAct) (hl : SActsIn w lv l) :
    Calls Try.prog 5 #[.int .i64 lim, lv] w fun e w' => e = .returned (.bool true) ∧ Below w.heap.size w w' := by
  by_cases hg : 1 ≤ lim ∧ lim ≤ 4096
  · exact slabPlays_in w lim hg.1 hg.2 lv l hl
  · exact slabPlays_out w lim (by omega) lv
end Go.Proofs.Ytkeffebcmajhmaa
