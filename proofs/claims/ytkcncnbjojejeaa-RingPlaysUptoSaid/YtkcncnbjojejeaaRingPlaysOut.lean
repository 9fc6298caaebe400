/- RingPlays whole: sizes that are no ring's too. -/
import Derived.Test.YtkcncnbjojejeaaRingPlaysWalk
namespace Go.Proofs.Ytkcncnbjojejeaa
open Go.RowKit
set_option linter.unusedVariables false
set_option maxRecDepth 100000 in
set_option maxHeartbeats 1000000 in
theorem ringPlays_out (w : World) (size : Int) (h : size < 1 ∨ (1 ≤ size ∧ 65536 < size)) (lv : Value) (l : List ActD) (hl : ActsIn w lv l) (hs : ∀ a ∈ l, a.b.length ≤ 1048576 ∧ a.c.length ≤ 1048576) :
    Calls Try.prog 3 #[.int .i64 size, lv] w fun e w' => e = .returned (.bool true) ∧ Below w.heap.size w w' := by
  have hh := heavy_any _ l w hl hs
  have h1 := fun W => new_bad size W (by omega)
  have h2 := fun W => rrnew_bad size W h
  have H1 := hid h1
  have H2 := hid h2
  clear hl hs h h1 h2
  go_enter Try.func3, Try.ntmps3
  go_wp2_with fail
  refine hh.mono ?_
  clear hh
  rintro e w1 ⟨⟨r, rfl⟩, hk1⟩
  cases r with
  | true =>
    go_wp2_with (go_at_call 13; refine (known_any _).mono ?_; rintro e w11 ⟨rfl, hk11⟩)
    go_ret
    exact ⟨rfl, (hk1.trans hk11 (by simp)).below (Nat.le_refl _) (by simp)⟩
  | false =>
    go_wp2_with (first
      | (go_at_call 14; refine (H1.out _).mono ?_; rintro e w2 ⟨rfl, rfl⟩)
      | (go_at_call 15; refine (H2.out _).mono ?_; rintro e w3 ⟨rfl, rfl⟩)
      | (go_at_call 13; refine (known_any _).mono ?_; rintro e w11 ⟨rfl, hk11⟩))
    go_ret
    exact ⟨rfl, (hk1.trans hk11 (by simp)).below (Nat.le_refl _) (by simp)⟩
theorem ringPlays_walk (w : World) (size : Int) (_ : (Lit.int .i64 size).wf = true) (lv : Value) (l : List ActD) (hl : ActsIn w lv l) (hs : ∀ a ∈ l, a.b.length ≤ 1048576 ∧ a.c.length ≤ 1048576) :
    Calls Try.prog 3 #[.int .i64 size, lv] w fun e w' => e = .returned (.bool true) ∧ Below w.heap.size w w' := by
  by_cases hg : 1 ≤ size ∧ size ≤ 65536
  · obtain ⟨s, rfl⟩ := Int.eq_ofNat_of_zero_le (by omega : 0 ≤ size)
    exact ringPlays_in w s (by omega) (by omega) lv l hl hs
  · exact ringPlays_out w size (by omega) lv l hl hs
end Go.Proofs.Ytkcncnbjojejeaa
