/- The poller: what is watched; told by contract, edge B. -/
import Derived.Test.YtkeffebcmajhmaaPq21
namespace Go.Proofs.Ytkeffebcmajhmaa
open Go.RowKit
set_option linter.unusedVariables false
set_option linter.unusedSimpArgs false
set_option maxRecDepth 100000 in
set_option maxHeartbeats 8000000 in
theorem told_edgeB (pb n s m q : Nat) (F : List Nat) (N : NS) (d : Wd) (w : World) (hp : Blk w pb 93 (pcells n s m)) (hn : NRep pc w n F N) (hq : Blk w q 153 (wcells d)) (hed : d.ed = true) (hc : ((readyN N d.id).1 && d.rd) = true ∧ decide (d.tr < (marksN N d.id).1) = true) :
    Calls Try.prog 78 #[.pointer (some ⟨pb, 0, none⟩), .pointer (some ⟨q, 0, none⟩)] w (ToldPost w q (toldD N d)) := by
  have HN := hid hn
  have HQ := hid hq
  have p0 := hp.cell 0
  have q0 := hq.cell 0
  have q1 := hq.cell 1
  have q2 := hq.cell 2
  have q3 := hq.cell 3
  have q4 := hq.cell 4
  have q5 := hq.cell 5
  simp [pcells, wcells] at p0 q0 q1 q2 q3 q4 q5
  unfold toldD
  rw [if_pos hed]
  rw [hed] at q3
  obtain ⟨r0, hr0⟩ : ∃ r, (readyN N d.id).1 = r := ⟨_, rfl⟩
  obtain ⟨w0, hw0⟩ : ∃ r, (readyN N d.id).2 = r := ⟨_, rfl⟩
  obtain ⟨mr, hmr⟩ : ∃ r, (marksN N d.id).1 = r := ⟨_, rfl⟩
  obtain ⟨mw, hmw⟩ : ∃ r, (marksN N d.id).2 = r := ⟨_, rfl⟩
  have HRY : Hid (∀ W, Keeps [] w W → Calls Try.prog 48 #[.pointer (some ⟨n, 0, none⟩), .int .i64 d.id] W fun e w' => e = .returned (.tuple #[.bool r0, .bool w0]) ∧ Keeps [] W w') := by
    refine hid fun W hW => ?_
    have := ready_any n F N d.id W (HN.out.keeps hW (by simp))
    rw [hr0, hw0] at this
    exact this
  have HMK : Hid (∀ W, Keeps [] w W → Calls Try.prog 63 #[.pointer (some ⟨n, 0, none⟩), .int .i64 d.id] W fun e w' => e = .returned (.tuple #[.int .i64 mr, .int .i64 mw]) ∧ Keeps [] W w') := by
    refine hid fun W hW => ?_
    have := marks_any n F N d.id W (HN.out.keeps hW (by simp))
    rw [hmr, hmw] at this
    exact this
  rw [hr0, hw0, hmr, hmw]
  obtain ⟨r1, hr1⟩ : ∃ r, (r0 && d.rd) = r := ⟨_, rfl⟩
  obtain ⟨w1, hw1⟩ : ∃ r, (w0 && d.wr) = r := ⟨_, rfl⟩
  obtain ⟨x, hx⟩ : ∃ r, decide (d.tr < mr) = r := ⟨_, rfl⟩
  obtain ⟨y, hy⟩ : ∃ r, decide (d.tm < mw) = r := ⟨_, rfl⟩
  rw [hr0, hr1, hmr, hx] at hc
  have hc := hid hc
  rw [hr1, hw1, hx, hy]
  obtain ⟨D', hD'⟩ : ∃ D' : Wd, ({ d with tr := if (r1 && x) = true then mr else d.tr, tm := if (w1 && y) = true then mw else d.tm } : Wd) = D' := ⟨_, rfl⟩
  rw [hD']
  have HD' := hid hD'
  have HR1 := hid hr1
  have HW1 := hid hw1
  obtain ⟨rd, hrd⟩ : ∃ r, d.rd = r := ⟨_, rfl⟩
  obtain ⟨wr, hwr⟩ : ∃ r, d.wr = r := ⟨_, rfl⟩
  obtain ⟨tr, htr⟩ : ∃ r, d.tr = r := ⟨_, rfl⟩
  obtain ⟨tm, htm⟩ : ∃ r, d.tm = r := ⟨_, rfl⟩
  have HRD := hid hrd
  have HWR := hid hwr
  have HTR := hid htr
  have HTM := hid htm
  rw [hrd] at q1
  rw [hwr] at q2
  rw [htr] at q4 hx
  rw [htm] at q5 hy
  clear hp hn hq hr0 hw0 hrd hwr htr htm hed hmr hmw hr1 hw1 hD'
  go_enter Try.func78, Try.ntmps78
  go_wp2_with fail
  go_region_held3 (fun w' => w'.cell? ⟨pb, 0, none⟩ = some (.pointer (some ⟨n, 0, none⟩)) ∧ w'.cell? ⟨q, 0, none⟩ = some (.int .i64 d.id)) (first | (repeat (first | (with_reducible assumption) | (with_reducible refine ⟨?_, ?_⟩) | (with_reducible refine pdrew_cell ?_))))
    (first | (go_at_call 48; refine (HRY.out _ (Keeps.refl _ _).drew).mono ?_; rintro e w2 ⟨rfl, hk2⟩; have hkk : Keeps [] w w2 := hk2.pre1; have j0 := cell_keep hkk (by simp) p0; have k0 := cell_keep hkk (by simp) q0; have HK2 := hid hkk; clear hk2 hkk) | fail)
  go_wp2_with fail
  go_cut [4, 5] (fun a b wx => a = .bool r1 ∧ b = .bool w1 ∧ Keeps [] w wx)
  case first =>
    have k1 := cell_keep HK2.out (by simp) q1
    have k2 := cell_keep HK2.out (by simp) q2
    have hh := HR1.out
    have hh2 := HW1.out
    rw [HRD.out] at hh
    rw [HWR.out] at hh2
    have HH := hid hh
    have HH2 := hid hh2
    clear hh hh2
    cases r0 <;> cases w0 <;> cases rd <;> cases wr
    all_goals
      go_quiet (fail)
      go_wp2_with fail
      go_meet
      case rel => exact ⟨by rw [← HH.out]; rfl, by rw [← HH2.out]; rfl, HK2.out.drewN _⟩
  case rest =>
    obtain ⟨rfl, rfl, hkx⟩ := hcut
    have HKX := hid hkx
    clear hkx j0 k0
    have l0 := cell_keep HKX.out (by simp) p0
    have l1 := cell_keep HKX.out (by simp) q0
    have l3 := cell_keep HKX.out (by simp) q3
    have l4 := cell_keep HKX.out (by simp) q4
    have l5 := cell_keep HKX.out (by simp) q5
    clear p0 q0 q1 q2 q3 q4 q5 HK2
    have c2 : w1 = false ∨ (w1 = true ∧ y = true) ∨ (w1 = true ∧ y = false) := by cases w1 <;> cases y <;> simp
    obtain ⟨rfl, rfl⟩ := hc.out
    rcases c2 with rfl | ⟨rfl, rfl⟩ | ⟨rfl, rfl⟩
    all_goals
      go_wp2_with fail
      go_region_held3 (fun w' => w'.cell? ⟨pb, 0, none⟩ = some (.pointer (some ⟨n, 0, none⟩)) ∧ w'.cell? ⟨q, 0, none⟩ = some (.int .i64 d.id)) (first | (repeat (first | (with_reducible assumption) | (with_reducible refine ⟨?_, ?_⟩) | (with_reducible refine pdrew_cell ?_))))
        (first | (go_at_call 63; refine (HMK.out _ HKX.out.drew).mono ?_; rintro e w3 ⟨rfl, hk3⟩; have hkk := (HKX.out.drew.trans hk3 (by simp)); have hkk2 := hk3.pre1; have m0 := cell_keep hkk2 (by simp) l0; have m1 := cell_keep hkk2 (by simp) l1; have m4 := cell_keep hkk2 (by simp) l4; have m5 := cell_keep hkk2 (by simp) l5; have f4 := (HQ.out.keeps hkk (by simp)).frozen 4; have f5 := (HQ.out.keeps hkk (by simp)).frozen 5; have HK3 := hid hkk; clear hk3 hkk hkk2) | fail)
      go_wp2_with fail
      go_quiet (fail)
      go_wp2_with fail
      go_ret2
      have hb := HQ.out.keeps HK3.out (by simp)
      have hk3 : Keeps [q] w w3 := HK3.out.mono (by simp)
      refine ⟨rfl, ?_, ?_⟩
      · rw [← HD'.out]
        repeat (first | (with_reducible refine Blk.drewN ?_ _) | (with_reducible refine Blk.drew ?_))
        first
          | (with_reducible refine pblk_eq (((hb.drewN _).set_ 4 (.int .i64 mr)).set_ 5 (.int .i64 mw)) ?_; simp [wcells])
          | (with_reducible refine pblk_eq ((hb.set_ 4 (.int .i64 mr)).set_ 5 (.int .i64 mw)) ?_; simp [wcells])
          | (with_reducible refine pblk_eq ((hb.drewN _).set_ 4 (.int .i64 mr)) ?_; simp [wcells, HTM.out])
          | (with_reducible refine pblk_eq (hb.set_ 4 (.int .i64 mr)) ?_; simp [wcells, HTM.out])
          | (with_reducible refine pblk_eq ((hb.drewN _).set_ 5 (.int .i64 mw)) ?_; simp [wcells, HTR.out])
          | (with_reducible refine pblk_eq (hb.set_ 5 (.int .i64 mw)) ?_; simp [wcells, HTR.out])
          | (with_reducible refine pblk_eq hb ?_; simp [wcells, HTR.out, HTM.out])
      · repeat (first | (with_reducible exact hk3) | (with_reducible refine Keeps.drewN ?_ _) | (with_reducible refine Keeps.drew ?_) | (with_reducible refine Keeps.setCell ?_ (.inl (by simp)) _))
end Go.Proofs.Ytkeffebcmajhmaa
