/- The program's net: Marks, Ready, State, Accept by contract. -/
import Derived.Test.YtkeffebcmajhmaaPq05
namespace Go.Proofs.Ytkeffebcmajhmaa
open Go.RowKit
set_option linter.unusedVariables false
theorem marks_nil (k : Int) (w : World) : Calls Try.prog 63 #[.pointer none, .int .i64 k] w fun e w' => e = .returned (.tuple #[.int .i64 0, .int .i64 0]) ∧ Keeps [] w w' := by
  go_enter Try.func63, Try.ntmps63
  go_wp2_with (go_at_call 76; refine (nat_nil _ _).mono ?_; rintro e w1 ⟨rfl, hk⟩)
  go_ret2
  exact ⟨rfl, hk⟩
theorem ready_nil (k : Int) (w : World) : Calls Try.prog 48 #[.pointer none, .int .i64 k] w fun e w' => e = .returned (.tuple #[.bool false, .bool false]) ∧ Keeps [] w w' := by
  go_enter Try.func48, Try.ntmps48
  go_wp2_with (go_at_call 76; refine (nat_nil _ _).mono ?_; rintro e w1 ⟨rfl, hk⟩)
  go_ret2
  exact ⟨rfl, hk⟩
theorem marks_any (n : Nat) (F : List Nat) (N : NS) (k : Int) (w : World) (h : NRep pc w n F N) :
    Calls Try.prog 63 #[.pointer (some ⟨n, 0, none⟩), .int .i64 k] w fun e w' => e = .returned (.tuple #[.int .i64 (marksN N k).1, .int .i64 (marksN N k).2]) ∧ Keeps [] w w' := by
  obtain ⟨own, ps, vc, vq, h⟩ := h
  have H := hid h
  unfold marksN
  by_cases hm1 : k = -1
  · subst hm1
    rw [if_pos rfl]
    have c5 := h.blk.cell 5
    simp [pc] at c5
    clear h
    simp only
    go_enter Try.func63, Try.ntmps63
    go_wp2
    go_ret2
    exact ⟨rfl, Keeps.refl _ _⟩
  · rw [if_neg hm1]
    have hmb : (k == -1) = false := by simpa using hm1
    clear hm1
    rcases h.which k with hk | ⟨i, p, d, rfl, hp, hd⟩
    · rw [cnAt_none hk]
      have HK := hid hk
      clear h hk
      simp only
      go_enter Try.func63, Try.ntmps63
      go_wp2_with (go_at_call 76; refine (nat_out H.out _ HK.out).mono ?_; rintro e w1 ⟨rfl, hk⟩)
      go_ret2
      exact ⟨rfl, hk⟩
    · rw [cnAt_some hd]
      obtain ⟨vi, vo, vt, hc⟩ := h.at_ i p d hp hd
      have HP := hid hp
      have c9 := hc.1.cell 9
      have c10 := hc.1.cell 10
      simp [pc] at c9 c10
      clear h hc hp hd
      simp only
      go_enter Try.func63, Try.ntmps63
      go_wp2_with (go_at_call 76; refine (nat_in H.out i p HP.out).mono ?_; rintro e w1 ⟨rfl, hk⟩; have e9 := cell_keep hk (by simp) c9; have e10 := cell_keep hk (by simp) c10)
      go_quiet (fail)
      go_wp2_with fail
      go_ret2
      exact ⟨rfl, hk.drewN _⟩
set_option maxHeartbeats 4000000 in
theorem ready_any (n : Nat) (F : List Nat) (N : NS) (k : Int) (w : World) (h : NRep pc w n F N) :
    Calls Try.prog 48 #[.pointer (some ⟨n, 0, none⟩), .int .i64 k] w fun e w' => e = .returned (.tuple #[.bool (readyN N k).1, .bool (readyN N k).2]) ∧ Keeps [] w w' := by
  obtain ⟨own, ps, vc, vq, h⟩ := h
  have H := hid h
  unfold readyN
  by_cases hm1 : k = -1
  · subst hm1
    rw [if_pos rfl]
    have c2 := h.blk.cell 2
    simp [pc] at c2
    obtain ⟨A, cap, rfl, -⟩ := h.rq.form
    clear h
    simp only
    obtain ⟨m, hm⟩ : ∃ m, N.queue.length = m := ⟨_, rfl⟩
    rw [hm] at c2 ⊢
    clear hm H
    rcases (by omega : 0 < m ∨ m = 0) with hm | rfl
    · have e1 : decide (0 < m) = true := by simpa using hm
      rw [e1]
      clear e1
      go_enter Try.func48, Try.ntmps48
      go_wp2
      go_ret2
      exact ⟨rfl, Keeps.refl _ _⟩
    · rw [show decide (0 < 0) = false from rfl]
      go_enter Try.func48, Try.ntmps48
      go_wp2
      go_ret2
      exact ⟨rfl, Keeps.refl _ _⟩
  · rw [if_neg hm1]
    have hmb : (k == -1) = false := by simpa using hm1
    clear hm1
    rcases h.which k with hk | ⟨i, p, d, rfl, hp, hd⟩
    · rw [cnAt_none hk]
      have HK := hid hk
      clear h hk
      simp only
      go_enter Try.func48, Try.ntmps48
      go_wp2_with (go_at_call 76; refine (nat_out H.out _ HK.out).mono ?_; rintro e w1 ⟨rfl, hk⟩)
      go_ret2
      exact ⟨rfl, hk⟩
    · rw [cnAt_some hd]
      obtain ⟨vi, vo, vt, hc⟩ := h.at_ i p d hp hd
      have HP := hid hp
      have c1 := hc.1.cell 1
      have c2 := hc.1.cell 2
      have c4 := hc.1.cell 4
      have c5 := hc.1.cell 5
      have c7 := hc.1.cell 7
      have c8 := hc.1.cell 8
      simp [pc] at c1 c2 c4 c5 c7 c8
      obtain ⟨A, cap, rfl, -⟩ := hc.2.2.1.1.form
      obtain ⟨b1, hb1⟩ : ∃ b, d.opn = b := ⟨_, rfl⟩
      obtain ⟨b2, hb2⟩ : ∃ b, d.broken = b := ⟨_, rfl⟩
      obtain ⟨b4, hb4⟩ : ∃ b, d.halved = b := ⟨_, rfl⟩
      obtain ⟨b5, hb5⟩ : ∃ b, d.shut = b := ⟨_, rfl⟩
      obtain ⟨m, hm⟩ : ∃ m, d.inn.length = m := ⟨_, rfl⟩
      obtain ⟨u, hu⟩ : ∃ u, d.window = u := ⟨_, rfl⟩
      rw [hb1] at c1
      rw [hb2] at c2
      rw [hb4] at c4
      rw [hb5] at c5
      rw [hm] at c7
      rw [hu] at c8
      simp only [hb1, hb2, hb4, hb5, hm, hu]
      clear h hc hp hd hb1 hb2 hb4 hb5 hm hu
      cases b1 with
      | false =>
        rw [if_neg (by simp)]
        go_enter Try.func48, Try.ntmps48
        go_wp2_with (go_at_call 76; refine (nat_in H.out i p HP.out).mono ?_; rintro e w1 ⟨rfl, hk⟩; have e1 := cell_keep hk (by simp) c1)
        go_ret2
        exact ⟨rfl, hk⟩
      | true =>
        rw [if_pos rfl]
        simp only
        obtain ⟨x, hx⟩ : ∃ x, decide (0 < m) = x := ⟨_, rfl⟩
        obtain ⟨y, hy⟩ : ∃ y, decide (0 < u) = y := ⟨_, rfl⟩
        have hx' : decide ((0 : Int) < (m : Int)) = x := by rw [← hx]; simp
        rw [hx, hy]
        cases x <;> cases y <;> cases b2 <;> cases b4 <;> cases b5
        all_goals
          go_enter Try.func48, Try.ntmps48
          go_wp2_with (go_at_call 76; refine (nat_in H.out i p HP.out).mono ?_; rintro e w1 ⟨rfl, hk⟩; have e1 := cell_keep hk (by simp) c1; have e2 := cell_keep hk (by simp) c2; have e4 := cell_keep hk (by simp) c4; have e5 := cell_keep hk (by simp) c5; have e7 := cell_keep hk (by simp) c7; have e8 := cell_keep hk (by simp) c8)
          go_quiet (fail)
          go_wp2_with fail
          go_ret2
          exact ⟨rfl, hk.drewN _⟩
end Go.Proofs.Ytkeffebcmajhmaa
