/- The reference's net: Marks, Bytes, Got, Ready, Len, State by contract. -/
import Derived.Test.YtkeffebcmajhmaaRn1
namespace Go.Proofs.Ytkeffebcmajhmaa
open Go.RowKit
set_option linter.unusedVariables false
set_option linter.unusedSimpArgs false
/-- a number is no connection's. -/
theorem rno_cases {c : Cfg} {w : World} {n : Nat} {F : List Nat} {own : Nat → Nat} {ps : List Nat} {vc vq : Value} {N : NS} (h : NAt c w n F own ps vc vq N) {k : Int} (hk : k < 0 ∨ (0 ≤ k ∧ (N.cs.length : Int) ≤ k)) : decide (k < 0) = true ∨ (decide (k < 0) = false ∧ decide ((N.cs.length : Int) ≤ k) = true) := by
  rcases hk with h | ⟨h1, h2⟩
  · exact .inl (by simpa using h)
  · exact .inr ⟨by simpa using h1, by simpa using h2⟩
set_option maxHeartbeats 4000000 in
theorem rmarks_any (n : Nat) (F : List Nat) (N : NS) (k : Int) (w : World) (h : NRep rc w n F N) :
    Calls Try.prog 94 #[.pointer (some ⟨n, 0, none⟩), .int .i64 k] w fun e w' => e = .returned (.tuple #[.int .i64 (marksN N k).1, .int .i64 (marksN N k).2]) ∧ Keeps [] w w' := by
  obtain ⟨own, ps, vc, vq, h⟩ := h
  have n1 := h.blk.cell 1
  have n5 := h.blk.cell 5
  simp [rc] at n1 n5
  unfold marksN
  by_cases hm1 : k = -1
  · subst hm1
    rw [if_pos rfl]
    clear h
    simp only
    go_enter Try.func94, Try.ntmps94
    go_wp2
    go_ret2
    exact ⟨rfl, Keeps.refl _ _⟩
  · rw [if_neg hm1]
    have hmb : (k == -1) = false := by simpa using hm1
    clear hm1
    rcases h.which k with hk | ⟨i, p, d, rfl, hp, hd⟩
    · rw [cnAt_none hk]
      obtain ⟨A, cap, rfl, -⟩ := h.rc.form
      have hk := rno_cases h hk
      clear h
      simp only
      rcases hk with d0 | ⟨d0, d1⟩
      all_goals
        go_enter Try.func94, Try.ntmps94
        go_wp2
        go_ret2
        exact ⟨rfl, Keeps.refl _ _⟩
    · rw [cnAt_some hd]
      obtain ⟨p, b, off, cap, -, rfl, hkl, hle, hcap, hcell, hbn, vi, vo, vt, hc⟩ := h.conn hd
      have c11 := hc.1.cell 11
      have c12 := hc.1.cell 12
      simp [rc] at c11 c12
      have hki : (i : Int) < N.cs.length := by omega
      have d0 : decide ((i : Int) < 0) = false := by simp
      have d1 : decide ((N.cs.length : Int) ≤ (i : Int)) = false := by simp; omega
      clear h hc hp hd
      simp only
      go_enter Try.func94, Try.ntmps94
      go_wp2_with fail
      go_quiet (fail)
      go_wp2_with fail
      go_ret2
      exact ⟨rfl, (Keeps.refl [] w).drewN _⟩
/-- a row that is read, and nobody's to keep. -/
def RRow (w : World) (l : List Int) (v : Value) (w' : World) : Prop := Row w' 5 1 v l.length (bytesV l) ∧ Keeps [] w w'
set_option maxHeartbeats 4000000 in
theorem rbytes_any (n : Nat) (F : List Nat) (N : NS) (k : Int) (w : World) (h : NRep rc w n F N) :
    Calls Try.prog 97 #[.pointer (some ⟨n, 0, none⟩), .int .i64 k] w fun e w' => ∃ v, e = .returned v ∧ RRow w (takenN N k) v w' := by
  obtain ⟨own, ps, vc, vq, h⟩ := h
  have n1 := h.blk.cell 1
  simp [rc] at n1
  unfold takenN
  rcases h.which k with hk | ⟨i, p, d, rfl, hp, hd⟩
  · rw [cnAt_none hk]
    obtain ⟨A, cap, rfl, -⟩ := h.rc.form
    have hk := rno_cases h hk
    clear h
    simp only
    rcases hk with d0 | ⟨d0, d1⟩
    all_goals
      go_enter Try.func97, Try.ntmps97
      go_wp2
      go_ret
      exact ⟨_, rfl, Row.nil _ _ _, Keeps.refl _ _⟩
  · rw [cnAt_some hd]
    obtain ⟨p, b, off, cap, -, rfl, hkl, hle, hcap, hcell, hbn, vi, vo, vt, hc⟩ := h.conn hd
    have c9 := hc.1.cell 9
    simp [rc] at c9
    have hki : (i : Int) < N.cs.length := by omega
    have d0 : decide ((i : Int) < 0) = false := by simp
    have d1 : decide ((N.cs.length : Int) ≤ (i : Int)) = false := by simp; omega
    have HR := hid hc.2.2.2.2.1
    clear h hc hp hd
    simp only
    go_enter Try.func97, Try.ntmps97
    go_wp2_with fail
    go_ret
    exact ⟨_, rfl, HR.out, Keeps.refl _ _⟩
set_option maxHeartbeats 4000000 in
theorem rgot_any (n : Nat) (F : List Nat) (N : NS) (k : Int) (w : World) (h : NRep rc w n F N) :
    Calls Try.prog 95 #[.pointer (some ⟨n, 0, none⟩), .int .i64 k] w fun e w' => ∃ v, e = .returned (.tuple #[v, .bool (gotN N k).2]) ∧ RRow w (gotN N k).1 v w' := by
  obtain ⟨own, ps, vc, vq, h⟩ := h
  have n1 := h.blk.cell 1
  simp [rc] at n1
  unfold gotN
  rcases h.which k with hk | ⟨i, p, d, rfl, hp, hd⟩
  · rw [cnAt_none hk]
    obtain ⟨A, cap, rfl, -⟩ := h.rc.form
    have hk := rno_cases h hk
    clear h
    simp only
    rcases hk with d0 | ⟨d0, d1⟩
    all_goals
      go_enter Try.func95, Try.ntmps95
      go_wp2
      go_ret2
      exact ⟨_, rfl, Row.nil _ _ _, Keeps.refl _ _⟩
  · rw [cnAt_some hd]
    obtain ⟨p, b, off, cap, -, rfl, hkl, hle, hcap, hcell, hbn, vi, vo, vt, hc⟩ := h.conn hd
    have c2 := hc.1.cell 2
    have c3 := hc.1.cell 3
    have c4 := hc.1.cell 4
    have c6 := hc.1.cell 6
    have c8 := hc.1.cell 8
    simp [rc] at c2 c3 c4 c6 c8
    have hki : (i : Int) < N.cs.length := by omega
    have d0 : decide ((i : Int) < 0) = false := by simp
    have d1 : decide ((N.cs.length : Int) ≤ (i : Int)) = false := by simp; omega
    have HR := hid hc.2.2.2.1.1
    obtain ⟨b2, hb2⟩ : ∃ b, d.opn = b := ⟨_, rfl⟩
    obtain ⟨b3, hb3⟩ : ∃ b, d.taken = b := ⟨_, rfl⟩
    obtain ⟨b4, hb4⟩ : ∃ b, d.broken = b := ⟨_, rfl⟩
    obtain ⟨b6, hb6⟩ : ∃ b, d.shut = b := ⟨_, rfl⟩
    rw [hb2] at c2
    rw [hb3] at c3
    rw [hb4] at c4
    rw [hb6] at c6
    simp only [hb2, hb3, hb4, hb6]
    clear h hc hp hd hb2 hb3 hb4 hb6
    cases b6 <;> cases b4 <;> cases b3 <;> cases b2
    all_goals
      go_enter Try.func95, Try.ntmps95
      go_wp2_with fail
      go_quiet (fail)
      go_wp2_with fail
      go_ret2
      exact ⟨_, rfl, HR.out, (Keeps.refl [] w).drewN _⟩
end Go.Proofs.Ytkeffebcmajhmaa
