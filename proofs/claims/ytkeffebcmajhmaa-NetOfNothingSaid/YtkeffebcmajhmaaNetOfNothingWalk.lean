/- The walk of NetOfNothing. -/
import Derived.Test.YtkeffebcmajhmaaNet18
namespace Go.Proofs.Ytkeffebcmajhmaa
open Go.RowKit
set_option linter.unusedVariables false
set_option maxRecDepth 100000 in
set_option maxHeartbeats 4000000 in
theorem netOfNothing_walk (w : World) (c : Int) (_ : (Lit.int .i64 c).wf = true) (pv : Value) (zs : List Int) (hz : CellsIn w [] pv (zs.map (.int .u8))) (_ : ∀ n ∈ zs, (Lit.int .u8 n).wf = true) :
    Calls Try.prog 15 #[.int .i64 c, pv] w fun e w' => e = .returned (.bool true) ∧ Below w.heap.size w w' := by
  obtain ⟨A, cap, rfl, h1, h2⟩ := hz.shape
  simp only [List.length_map] at h1 ⊢
  clear hz
  obtain ⟨l, hl⟩ : ∃ l, zs.length = l := ⟨_, rfl⟩
  rw [hl] at h1 ⊢
  clear hl
  by_cases hb : 8000 < l
  · have h4 : (8000 : Int) < l := by omega
    go_enter Try.func15, Try.ntmps15
    go_wp2_with fail
    go_ret
    exact ⟨rfl, (Keeps.refl [] w).below (Nat.le_refl _) (by simp)⟩
  · have h4 : ¬ (8000 : Int) < l := by omega
    go_enter Try.func15, Try.ntmps15
    go_wp2_with fail
    refine (connect_nil _ _).mono ?_
    rintro e w1 ⟨rfl, hk1⟩
    go_wp2_with fail
    refine (send_nil _ _ _).mono ?_
    rintro e w2 ⟨rfl, hk2⟩
    have k2 : Keeps [] w w2 := (hk1.alloc _).trans hk2 (by simp)
    clear hk1 hk2
    go_wp2_with fail
    refine (inject_nil _ _).mono ?_
    rintro e w3 ⟨rfl, hk3⟩
    have k3 : Keeps [] w w3 := k2.trans hk3 (by simp)
    clear k2 hk3
    go_wp2_with fail
    refine (accept_nil _).mono ?_
    rintro e w4 ⟨rfl, hk4⟩
    have k4 : Keeps [] w w4 := k3.trans hk4 (by simp)
    clear k3 hk4
    go_wp2_with fail
    refine (read_nil _ _ _).mono ?_
    rintro e w5 ⟨rfl, hk5⟩
    have k5 : Keeps [] w w5 := k4.trans hk5 (by simp)
    clear k4 hk5
    go_wp2_with fail
    refine (write_nil _ _ _).mono ?_
    rintro e w6 ⟨rfl, hk6⟩
    have k6 : Keeps [] w w6 := k5.trans hk6 (by simp)
    clear k5 hk6
    go_wp2_with fail
    refine (stop_nil _).mono ?_
    rintro e w7 ⟨rfl, hk7⟩
    have k7 : Keeps [] w w7 := k6.trans hk7 (by simp)
    clear k6 hk7
    go_wp2_with fail
    refine (ready_nil _ _).mono ?_
    rintro e w8 ⟨rfl, hk8⟩
    have k8 : Keeps [] w w8 := k7.trans hk8 (by simp)
    clear k7 hk8
    go_wp2_with fail
    refine (marks_nil _ _).mono ?_
    rintro e w9 ⟨rfl, hk9⟩
    have k9 : Keeps [] w w9 := k8.trans hk9 (by simp)
    clear k8 hk9
    go_wp2_with fail
    refine (got_nil _ _).mono ?_
    rintro e w10 ⟨rfl, hk10⟩
    have k10 : Keeps [] w w10 := k9.trans hk10 (by simp)
    clear k9 hk10
    go_wp2_with fail
    refine (len_nil _).mono ?_
    rintro e w11 ⟨rfl, hk11⟩
    have k11 : Keeps [] w w11 := k10.trans hk11 (by simp)
    clear k10 hk11
    go_wp2_with fail
    refine (close_nil _ [c] _ ?_ (by simp)).mono ?_
    · have h := CellsIn.newM w11 [] [.int .i64 c] 3 (0, 0) (by simp) (by simp)
      simpa using h
    rintro e w12 ⟨rfl, hk12⟩
    have k12 : Keeps [] w w12 := (k11.alloc _).trans hk12 (by simp)
    clear k11 hk12
    go_wp2_with fail
    refine (taken_nil _ _).mono ?_
    rintro e w13 ⟨rfl, hk13⟩
    have k13 : Keeps [] w w13 := k12.trans hk13 (by simp)
    clear k12 hk13
    go_wp2_with fail
    refine (half_nil _ _).mono ?_
    rintro e w14 ⟨rfl, hk14⟩
    have k14 : Keeps [] w w14 := k13.trans hk14 (by simp)
    clear k13 hk14
    go_wp2_with fail
    refine (reset_nil _ _).mono ?_
    rintro e w15 ⟨rfl, hk15⟩
    have k15 : Keeps [] w w15 := k14.trans hk15 (by simp)
    clear k14 hk15
    go_wp2_with fail
    refine (open_nil _ _ _).mono ?_
    rintro e w16 ⟨rfl, hk16⟩
    have k16 : Keeps [] w w16 := k15.trans hk16 (by simp)
    clear k15 hk16
    go_wp2_with fail
    refine (shut_nil _ _).mono ?_
    rintro e w17 ⟨rfl, hk17⟩
    have k17 : Keeps [] w w17 := k16.trans hk17 (by simp)
    clear k16 hk17
    go_wp2_with fail
    refine (state_nil _ _).mono ?_
    rintro e w18 ⟨rfl, hk18⟩
    have k18 : Keeps [] w w18 := k17.trans hk18 (by simp)
    clear k17 hk18
    go_wp2_with fail
    refine (nknown_any _).mono ?_
    rintro e w19 ⟨rfl, hk19⟩
    have k19 : Keeps [] w w19 := k18.trans hk19 (by simp)
    clear k18 hk19
    go_wp2_with fail
    go_ret
    exact ⟨rfl, k19.below (Nat.le_refl _) (by simp)⟩
end Go.Proofs.Ytkeffebcmajhmaa
