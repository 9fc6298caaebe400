/- The reference's net: Ready, Len, State by contract. -/
import Derived.Test.YtkeffebcmajhmaaRn2
namespace Go.Proofs.Ytkeffebcmajhmaa
open Go.RowKit
set_option linter.unusedVariables false
set_option linter.unusedSimpArgs false
set_option maxHeartbeats 8000000 in
theorem rready_any (n : Nat) (F : List Nat) (N : NS) (k : Int) (w : World) (h : NRep rc w n F N) :
    Calls Try.prog 93 #[.pointer (some ⟨n, 0, none⟩), .int .i64 k] w fun e w' => e = .returned (.tuple #[.bool (readyN N k).1, .bool (readyN N k).2]) ∧ Keeps [] w w' := by
  obtain ⟨own, ps, vc, vq, h⟩ := h
  have n1 := h.blk.cell 1
  have n2 := h.blk.cell 2
  simp [rc] at n1 n2
  unfold readyN
  by_cases hm1 : k = -1
  · subst hm1
    rw [if_pos rfl]
    obtain ⟨A, cap, rfl, -⟩ := h.rq.form
    clear h
    simp only
    obtain ⟨m, hm⟩ : ∃ m, N.queue.length = m := ⟨_, rfl⟩
    rw [hm] at n2 ⊢
    clear hm
    rcases (by omega : 0 < m ∨ m = 0) with hm | rfl
    · have e1 : decide (0 < m) = true := by simpa using hm
      rw [e1]
      clear e1
      go_enter Try.func93, Try.ntmps93
      go_wp2
      go_ret2
      exact ⟨rfl, Keeps.refl _ _⟩
    · rw [show decide (0 < 0) = false from rfl]
      go_enter Try.func93, Try.ntmps93
      go_wp2
      go_ret2
      exact ⟨rfl, Keeps.refl _ _⟩
  · rw [if_neg hm1]
    have hmb : (k == -1) = false := by simpa using hm1
    clear hm1
    rcases h.which k with hk | ⟨i, p, d, rfl, hp, hd⟩
    · rw [cnAt_none hk]
      obtain ⟨A, cap, rfl, -⟩ := h.rc.form
      have hk := rno_cases h hk
      clear h
      simp only
      rcases hk with d0 | ⟨d0, d1⟩
      all_goals
        go_enter Try.func93, Try.ntmps93
        go_wp2
        go_ret2
        exact ⟨rfl, Keeps.refl _ _⟩
    · rw [cnAt_some hd]
      obtain ⟨p, b, off, cap, -, rfl, hkl, hle, hcap, hcell, hbn, vi, vo, vt, hc⟩ := h.conn hd
      have c2 := hc.1.cell 2
      have c4 := hc.1.cell 4
      have c5 := hc.1.cell 5
      have c6 := hc.1.cell 6
      have c7 := hc.1.cell 7
      have c10 := hc.1.cell 10
      simp [rc] at c2 c4 c5 c6 c7 c10
      have hki : (i : Int) < N.cs.length := by omega
      have d0 : decide ((i : Int) < 0) = false := by simp
      have d1 : decide ((N.cs.length : Int) ≤ (i : Int)) = false := by simp; omega
      obtain ⟨A, icap, rfl, -⟩ := hc.2.2.1.1.form
      obtain ⟨b2, hb2⟩ : ∃ b, d.opn = b := ⟨_, rfl⟩
      obtain ⟨b4, hb4⟩ : ∃ b, d.broken = b := ⟨_, rfl⟩
      obtain ⟨b5, hb5⟩ : ∃ b, d.halved = b := ⟨_, rfl⟩
      obtain ⟨b6, hb6⟩ : ∃ b, d.shut = b := ⟨_, rfl⟩
      obtain ⟨m, hm⟩ : ∃ m, d.inn.length = m := ⟨_, rfl⟩
      obtain ⟨u, hu⟩ : ∃ u, d.window = u := ⟨_, rfl⟩
      rw [hb2] at c2
      rw [hb4] at c4
      rw [hb5] at c5
      rw [hb6] at c6
      rw [hm] at c7
      rw [hu] at c10
      simp only [hb2, hb4, hb5, hb6, hm, hu]
      clear h hc hp hd hb2 hb4 hb5 hb6 hm hu
      cases b2 with
      | false =>
        rw [if_neg (by simp)]
        go_enter Try.func93, Try.ntmps93
        go_wp2_with fail
        go_ret2
        exact ⟨rfl, Keeps.refl _ _⟩
      | true =>
        rw [if_pos rfl]
        simp only
        obtain ⟨x, hx⟩ : ∃ x, decide (0 < m) = x := ⟨_, rfl⟩
        obtain ⟨y, hy⟩ : ∃ y, decide (0 < u) = y := ⟨_, rfl⟩
        have hx' : decide ((0 : Int) < (m : Int)) = x := by rw [← hx]; simp
        rw [hx, hy]
        go_enter Try.func93, Try.ntmps93
        go_upto_region 6 with (fail)
        cases x <;> cases y <;> cases b4 <;> cases b5 <;> cases b6
        all_goals
          go_quiet (fail)
          go_wp2_with fail
          go_ret2
          exact ⟨rfl, (Keeps.refl [] w).drewN _⟩
theorem countP_take {l : List Cn} {i : Nat} {d : Cn} (h : l[i]? = some d) : (l.take (i + 1)).countP (·.opn) = (l.take i).countP (·.opn) + (if d.opn = true then 1 else 0) := by
  rw [List.take_add_one, h, List.countP_append]
  simp [List.countP_cons]
set_option maxHeartbeats 4000000 in
theorem rlen_any (n : Nat) (F : List Nat) (N : NS) (B : Int) (w : World) (h : NRep rc w n F N) (hN : OkN N B) :
    Calls Try.prog 61 #[.pointer (some ⟨n, 0, none⟩)] w fun e w' => e = .returned (.tuple #[.int .i64 N.queue.length, .int .i64 N.nopen]) ∧ Keeps [] w w' := by
  obtain ⟨own, ps, vc, vq, h⟩ := h
  have n1 := h.blk.cell 1
  have n2 := h.blk.cell 2
  simp [rc] at n1 n2
  obtain ⟨QA, qcap, rfl, -⟩ := h.rq.form
  obtain ⟨CA, ccap, hvc, -⟩ := h.rc.form
  rw [hvc] at n1
  have H := hid h
  have HVC := hid hvc
  have HOP := hid hN.op
  have hcl := hN.cl
  clear h hN hvc
  go_enter Try.func61, Try.ntmps61
  go_wp2_with fail
  go_loopw [4, 5] (fun c i wr => ∃ k : Nat, k ≤ N.cs.length ∧ i = .int .i64 k ∧ c = .int .i64 ((N.cs.take k).countP (·.opn) : Nat) ∧ Keeps [] w wr) (fun _ i _ => N.cs.length - (intOf i).toNat)
  case atStart => exact ⟨0, Nat.zero_le _, rfl, rfl, Keeps.refl _ _⟩
  case round =>
    obtain ⟨k, hk, rfl, rfl, hkp⟩ := hrel
    have e1 := cell_keep hkp (by simp) n1
    have e2 := cell_keep hkp (by simp) n2
    have HKP := hid hkp
    clear hkp
    by_cases hlt : k < N.cs.length
    · obtain ⟨d, hd⟩ : ∃ d, N.cs[k]? = some d := ⟨N.cs[k], List.getElem?_eq_getElem hlt⟩
      obtain ⟨p, b, off, cap, -, hvv, hkl, hle, hcap, hcell, hbn, vi, vo, vt, hc⟩ := H.out.conn hd
      rw [HVC.out] at hvv
      injection hvv with hA _ hcc
      subst hA hcc
      have c2 := hc.1.cell 2
      simp [rc] at c2
      have g0 := cell_keep HKP.out (by simp) hcell
      have g2 := cell_keep HKP.out (by simp) c2
      have hki : (k : Int) < N.cs.length := by omega
      have hct := countP_take hd
      obtain ⟨q, hq⟩ : ∃ q, (N.cs.take k).countP (·.opn) = q := ⟨_, rfl⟩
      have hql : q ≤ 65536 := by
        have := List.countP_le_length (p := fun d : Cn => d.opn) (l := N.cs.take k)
        rw [List.length_take] at this
        omega
      rw [hq] at hct ⊢
      have HCT := hid hct
      obtain ⟨bo, hbo⟩ : ∃ b, d.opn = b := ⟨_, rfl⟩
      rw [hbo] at g2 HCT
      clear hc hd hcell c2 hct hq hbo
      cases bo with
      | true =>
        go_wp2_with fail
        go_roundw
        case rel => exact ⟨k + 1, by omega, by go_num, by rw [HCT.out]; go_num, HKP.out⟩
        case measure => simp [intOf] <;> omega
      | false =>
        go_wp2_with fail
        go_roundw
        case rel => exact ⟨k + 1, by omega, by go_num, by rw [HCT.out]; simp, HKP.out⟩
        case measure => simp [intOf] <;> omega
    · have hkl : k = N.cs.length := by omega
      subst hkl
      rw [List.take_length]
      go_wp2_with fail
      go_ret2
      rw [← HOP.out]
      exact ⟨rfl, HKP.out⟩
end Go.Proofs.Ytkeffebcmajhmaa
