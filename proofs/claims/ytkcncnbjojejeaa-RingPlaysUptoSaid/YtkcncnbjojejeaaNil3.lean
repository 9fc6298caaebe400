/- A nil ring: what each call answers. -/
import Derived.Test.YtkcncnbjojejeaaLaw3
namespace Go.Proofs.Ytkcncnbjojejeaa
open Go.RowKit
theorem skip_nil (n : Int) (w : World) : Calls Try.prog 21 #[.pointer none, .int .i64 n] w fun e w' => e = .returned (.int .i64 0) ∧ w = w' := by
  obtain ⟨N, hN⟩ : ∃ N, (if (0 : Int) < n then (0 : Int) else n) = N := ⟨_, rfl⟩
  have hN0 : N ≤ 0 := by
    subst hN
    split <;> omega
  have hM : (if (0 : Int) < N then N else 0) = 0 := by rw [if_neg (by omega)]
  go_enter Try.func21, Try.ntmps21
  go_wp2_with (go_at_call 28; refine (len_nil _).mono ?_; rintro e w' ⟨rfl, rfl⟩)
  go_ret
  exact ⟨rfl, rfl⟩
theorem peek_nil (n : Int) (w : World) : Calls Try.prog 23 #[.pointer none, .int .i64 n] w fun e w' => e = .returned (.slice none 0 0) ∧ w = w' := by
  obtain ⟨N, hN⟩ : ∃ N, (if (0 : Int) < n then (0 : Int) else n) = N := ⟨_, rfl⟩
  have hN0 : ¬ 0 < N := by
    subst hN
    split <;> omega
  go_enter Try.func23, Try.ntmps23
  go_wp2_with (go_at_call 28; refine (len_nil _).mono ?_; rintro e w' ⟨rfl, rfl⟩)
  refine wp_loop_rounds 1 ?_
  rw [rounds_succ]
  go_wp2
  go_ret
  exact ⟨rfl, rfl⟩
theorem find_nil (n : Int) (w : World) : Calls Try.prog 26 #[.pointer none, .int .u8 n] w fun e w' => e = .returned (.int .i64 (-1)) ∧ w = w' := by
  go_enter Try.func26, Try.ntmps26
  go_wp2_with (go_at_call 28; refine (len_nil _).mono ?_; rintro e w' ⟨rfl, rfl⟩)
  refine wp_loop_rounds 1 ?_
  rw [rounds_succ]
  go_wp2
  go_ret
  exact ⟨rfl, rfl⟩
theorem write_nil (pv : Value) (A : Option Addr) (n c : Nat) (w : World) (hp : CellsIn w [] pv [.slice A n c]) (hc : n ≤ 9223372036854775807) :
    Calls Try.prog 17 #[.pointer none, pv] w fun e w' => e = .returned (.int .i64 0) ∧ w = w' := by
  obtain ⟨P, cp, rfl, hp1, hp2⟩ := hp.shape
  obtain ⟨b, o, rfl, -, hcell⟩ := hp.at_ (by simp)
  have h0 := hcell 0 _ rfl
  rw [Nat.add_zero] at h0
  clear hcell hp
  go_enter Try.func17, Try.ntmps17
  go_wp2_with fail
  go_loop [5, 7, 9, 12] (fun n _ _ i => ∃ k : Nat, k ≤ 1 ∧ i = .int .i64 k ∧ n = .int .i64 0) (fun _ _ _ i => 1 - (intOf i).toNat)
  case atStart => exact ⟨0, by omega, rfl, rfl⟩
  case round =>
    obtain ⟨k, hk, rfl, rfl⟩ := hrel
    by_cases hk0 : k = 0
    · subst hk0
      rcases Nat.eq_zero_or_pos n with rfl | hpos
      all_goals
        go_wp2_with (go_at_call 29; refine (room_nil _).mono ?_; rintro e w' ⟨rfl, rfl⟩)
        refine wp_loop_rounds 1 ?_
        rw [rounds_succ]
        go_wp2
        go_round
        case rel => exact ⟨1, by omega, rfl, rfl⟩
        case measure => simp [intOf]
    · have hk1 : k = 1 := by omega
      subst hk1
      go_wp2
      go_ret
      exact ⟨rfl, rfl⟩
end Go.Proofs.Ytkcncnbjojejeaa
