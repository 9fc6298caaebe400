/- The walk of NetFails. -/
import Derived.Test.YtkeffebcmajhmaaNet19
namespace Go.Proofs.Ytkeffebcmajhmaa
open Go.RowKit
set_option linter.unusedVariables false
set_option maxRecDepth 100000 in
set_option maxHeartbeats 1000000 in
theorem netFails_out (w : World) (k m : Int) (h : k < 0 ∨ (0 ≤ k ∧ 40 < k) ∨ (0 ≤ k ∧ k ≤ 40 ∧ m < 0) ∨ (0 ≤ k ∧ k ≤ 40 ∧ 0 ≤ m ∧ 20 < m)) :
    Calls Try.prog 7 #[.int .i64 k, .int .i64 m] w fun e w' => e = .returned (.bool true) ∧ Below w.heap.size w w' := by
  rcases h with h | ⟨h0, h⟩ | ⟨h0, h1, h⟩ | ⟨h0, h1, h2, h⟩
  all_goals
    go_enter Try.func7, Try.ntmps7
    go_wp2_with (go_at_call 33; refine (nknown_any _).mono ?_; rintro e w5 ⟨rfl, hk5⟩)
    go_ret
    exact ⟨rfl, hk5.below (Nat.le_refl _) (by simp)⟩
set_option maxRecDepth 100000 in
set_option maxHeartbeats 2000000 in
theorem netFails_in (w : World) (k m : Nat) (hk : k ≤ 40) (hm : m ≤ 20) :
    Calls Try.prog 7 #[.int .i64 k, .int .i64 m] w fun e w' => e = .returned (.bool true) ∧ Below w.heap.size w w' := by
  have a1 : ¬ (k : Int) < 0 := by omega
  have a2 : ¬ (40 : Int) < k := by omega
  have a3 : ¬ (m : Int) < 0 := by omega
  have a4 : ¬ (20 : Int) < m := by omega
  go_enter Try.func7, Try.ntmps7
  go_wp2_with fail
  refine (nnew_S 20 w _ (Keeps.refl [] w) (by omega) (by omega)).mono ?_
  rw [← lineN_zero]
  rintro e w1 ⟨n, rfl, hs1⟩
  go_wp2_with fail
  refine (inject_S hs1 99 (by omega) (by omega)).mono ?_
  rw [lineN_inject _ _ _ _ _ (by omega)]
  rintro e w2 ⟨rfl, hs2⟩
  clear hs1
  go_wp2_with fail
  refine (inject_S hs2 k (by omega) (by omega)).mono ?_
  rw [lineN_inject _ _ _ _ _ (by omega)]
  rintro e w3 ⟨rfl, hs3⟩
  clear hs2
  have ok0 : OkN (lineN 20 (k : Int) [] 0) 0 := by
    rw [← lineN_inject 20 0 k [] 0 (by omega)]
    exact okN_inject (okN_new 20 (by omega) (by omega)) k (by omega)
  have hnn := lineN_none 20 (k : Int) []
  simp only [List.length_nil] at hnn
  have HNN := hid hnn
  clear hnn
  go_wp2_with fail
  refine (accept_S hs3 ok0 (by omega)).mono ?_
  rw [HNN.out]
  rintro e w4 ⟨rfl, hs4⟩
  have HS4 := hid hs4
  have HOK := hid ok0
  clear hs3 hs4 ok0
  go_wp2_with fail
  go_loopw [10] (fun i wr => ∃ j : Nat, j ≤ m ∧ i = .int .i64 j ∧ NSt w pc [] wr n (lineN 20 k (natsI j) 0) ∧ OkN (lineN 20 k (natsI j) 0) (j : Int)) (fun i _ => m - (intOf i).toNat)
  case atStart => exact ⟨0, Nat.zero_le _, rfl, HS4.out, HOK.out⟩
  case round =>
    obtain ⟨j, hj, rfl, hS, hO⟩ := hrel
    have HS := hid hS
    have HO := hid hO
    clear hS hO
    by_cases hlt : j < m
    · have HC := hid (lineN_connect 20 (k : Int) (natsI j) (j : Int) (by omega) (by omega) (by rw [natsI_len]; omega) (by rw [natsI_len]; omega))
      have HO2 := hid (okN_connect HO.out (j : Int) (by omega))
      go_wp2_with fail
      refine (connect_S HS.out HO.out (by omega) j).mono ?_
      rw [HC.out, ← natsI_succ]
      rintro e w5 ⟨rfl, hs5⟩
      have HS5 := hid hs5
      clear hs5
      go_wp2_with fail
      go_roundw
      case rel =>
        refine ⟨j + 1, by omega, by go_num, HS5.out, ?_⟩
        have h1 := HO2.out
        rw [HC.out, ← natsI_succ] at h1
        exact h1
      case measure => simp [intOf] <;> omega
    · have hjm : j = m := by omega
      subst hjm
      go_wp2_with fail
      go_loopw [11] (fun i wr => ∃ q : Nat, q ≤ k ∧ i = .int .i64 q ∧ (0 < q → 0 < j) ∧ NSt w pc [] wr n (lineN 20 ((k : Int) - q) (natsI j) 0) ∧ OkN (lineN 20 ((k : Int) - q) (natsI j) 0) (j : Int)) (fun i _ => k - (intOf i).toNat)
      case atStart => exact ⟨0, Nat.zero_le _, rfl, by omega, by simpa using HS.out, by simpa using HO.out⟩
      case round =>
        clear HS HO
        obtain ⟨q, hq, rfl, hqj, hS, hO⟩ := hrel
        have HS := hid hS
        have HO := hid hO
        clear hS hO
        by_cases hlt2 : q < k ∧ 0 < j
        · obtain ⟨hq2, hj2⟩ := hlt2
          have HF := hid (lineN_fail 20 ((k : Int) - q) (natsI j) (by rw [natsI_len]; omega) (by omega))
          have HO2 := hid (okN_accept HO.out)
          have hj3 : (0 : Int) < j := by omega
          go_wp2_with fail
          refine (accept_S HS.out HO.out (by omega)).mono ?_
          rw [HF.out]
          rintro e w6 ⟨rfl, hs6⟩
          have HS6 := hid hs6
          clear hs6
          go_wp2_with fail
          go_roundw
          case rel =>
            refine ⟨q + 1, by omega, by go_num, fun _ => hj2, ?_, ?_⟩
            · have := HS6.out
              rw [show (k : Int) - ((q + 1 : Nat) : Int) = (k : Int) - q - 1 by omega]
              exact this
            · have h1 := HO2.out
              rw [HF.out] at h1
              rw [show (k : Int) - ((q + 1 : Nat) : Int) = (k : Int) - q - 1 by omega]
              exact h1
          case measure => simp [intOf] <;> omega
        · have HZ : Hid (lineN 20 ((k : Int) - q) (natsI j) 0 = lineN 20 0 (natsI j) 0 ∨ j = 0) := by
            rcases (by omega : q = k ∨ j = 0) with h | h
            · exact hid (.inl (by rw [h]; simp))
            · exact hid (.inr h)
          have hstop : ¬ q < k ∨ (q < k ∧ ¬ 0 < j) := by omega
          clear hlt2
          rcases hstop with h1 | ⟨h1, h2⟩
          all_goals
            go_wp2_with fail
            go_loopw [15] (fun i wr => ∃ r : Nat, r ≤ j ∧ i = .int .i64 r ∧ ((j = 0 ∧ Keeps [] w wr) ∨ (NSt w pc [] wr n (lineN 20 0 (natsI j) r) ∧ OkN (lineN 20 0 (natsI j) r) (j : Int)))) (fun i _ => j - (intOf i).toNat)
            case atStart =>
              refine ⟨0, Nat.zero_le _, rfl, ?_⟩
              rcases HZ.out with h | h
              · right
                rw [← h]
                exact ⟨HS.out, HO.out⟩
              · exact .inl ⟨h, HS.out.keepsW⟩
            case round =>
              clear HS HO
              obtain ⟨r, hr, rfl, hS⟩ := hrel
              have HS := hid hS
              clear hS
              by_cases hlt3 : r < j
              · obtain ⟨hS, hO⟩ := HS.out.resolve_left (fun h => by omega)
                have HSS := hid hS
                have HO := hid hO
                have HA := hid (lineN_accept 20 (natsI j) r (r : Int) (natsI_get j r hlt3))
                have HO2 := hid (okN_accept hO)
                clear hS hO
                go_wp2_with fail
                refine (accept_S HSS.out HO.out (by omega)).mono ?_
                rw [HA.out]
                rintro e w7 ⟨rfl, hs7⟩
                have HS7 := hid hs7
                clear hs7
                go_wp2_with fail
                go_roundw
                case rel =>
                  refine ⟨r + 1, by omega, by go_num, .inr ⟨HS7.out, ?_⟩⟩
                  have h1 := HO2.out
                  rw [HA.out] at h1
                  exact h1
                case measure => simp [intOf] <;> omega
              · have hkw : Keeps [] w wr := by
                  rcases HS.out with h | h
                  · exact h.2
                  · exact h.1.keepsW
                go_wp2_with (go_at_call 33; refine (nknown_any _).mono ?_; rintro e w5 ⟨rfl, hk5⟩)
                go_ret
                exact ⟨rfl, (hkw.trans hk5 (by simp)).below (Nat.le_refl _) (by simp)⟩
theorem netFails_walk (w : World) (k : Int) (_ : (Lit.int .i64 k).wf = true) (m : Int) (_ : (Lit.int .i64 m).wf = true) :
    Calls Try.prog 7 #[.int .i64 k, .int .i64 m] w fun e w' => e = .returned (.bool true) ∧ Below w.heap.size w w' := by
  by_cases h : 0 ≤ k ∧ k ≤ 40 ∧ 0 ≤ m ∧ m ≤ 20
  · obtain ⟨h0, h1, h2, h3⟩ := h
    obtain ⟨k, rfl⟩ := Int.eq_ofNat_of_zero_le h0
    obtain ⟨m, rfl⟩ := Int.eq_ofNat_of_zero_le h2
    exact netFails_in w k m (by omega) (by omega)
  · exact netFails_out w k m (by omega)
end Go.Proofs.Ytkeffebcmajhmaa
