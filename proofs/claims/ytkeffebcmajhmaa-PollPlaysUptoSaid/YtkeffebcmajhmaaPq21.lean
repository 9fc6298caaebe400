/- The poller: what is watched; told by contract, without edge. -/
import Derived.Test.YtkeffebcmajhmaaPq17
namespace Go.Proofs.Ytkeffebcmajhmaa
open Go.RowKit
set_option linter.unusedVariables false
set_option linter.unusedSimpArgs false
theorem pblk_eq {w : World} {q : Nat} {T : TypeId} {a b : Array Value} (h : Blk w q T a) (e : a = b) : Blk w q T b := e ▸ h
theorem pdrew_cell {w : World} {p : Addr} {v : Value} (h : w.cell? p = some v) : w.drew.cell? p = some v := h
theorem pdrewN_cell {w : World} {p : Addr} {v : Value} (h : w.cell? p = some v) (n : Nat) : (w.drewN n).cell? p = some v := h
set_option maxRecDepth 100000 in
set_option maxHeartbeats 4000000 in
theorem told_plain (pb n s m q : Nat) (F : List Nat) (N : NS) (d : Wd) (w : World) (hp : Blk w pb 93 (pcells n s m)) (hn : NRep pc w n F N) (hq : Blk w q 153 (wcells d)) (hed : d.ed = false) :
    Calls Try.prog 78 #[.pointer (some ⟨pb, 0, none⟩), .pointer (some ⟨q, 0, none⟩)] w (ToldPost w q (toldD N d)) := by
  have HN := hid hn
  have HQ := hid hq
  have p0 := hp.cell 0
  have q0 := hq.cell 0
  have q1 := hq.cell 1
  have q2 := hq.cell 2
  have q3 := hq.cell 3
  simp [pcells, wcells] at p0 q0 q1 q2 q3
  unfold toldD
  rw [hed]
  simp only [Bool.false_eq_true, if_false]
  rw [hed] at q3
  obtain ⟨r0, hr0⟩ : ∃ r, (readyN N d.id).1 = r := ⟨_, rfl⟩
  obtain ⟨w0, hw0⟩ : ∃ r, (readyN N d.id).2 = r := ⟨_, rfl⟩
  obtain ⟨rd, hrd⟩ : ∃ r, d.rd = r := ⟨_, rfl⟩
  obtain ⟨wr, hwr⟩ : ∃ r, d.wr = r := ⟨_, rfl⟩
  obtain ⟨id, hid'⟩ : ∃ r, d.id = r := ⟨_, rfl⟩
  have HRY : Hid (∀ W, Keeps [] w W → Calls Try.prog 48 #[.pointer (some ⟨n, 0, none⟩), .int .i64 id] W fun e w' => e = .returned (.tuple #[.bool r0, .bool w0]) ∧ Keeps [] W w') := by
    refine hid fun W hW => ?_
    have := ready_any n F N d.id W (HN.out.keeps hW (by simp))
    rw [hr0, hw0, hid'] at this
    exact this
  rw [hr0, hw0, hrd, hwr]
  rw [hid'] at q0
  rw [hrd] at q1
  rw [hwr] at q2
  clear hp hn hq hr0 hw0 hrd hwr hid' hed
  cases r0 <;> cases w0 <;> cases rd <;> cases wr
  all_goals
    go_enter Try.func78, Try.ntmps78
    go_wp2_with fail
    go_region_held3 (fun w' => w'.cell? ⟨pb, 0, none⟩ = some (.pointer (some ⟨n, 0, none⟩)) ∧ w'.cell? ⟨q, 0, none⟩ = some (.int .i64 id)) (first | (repeat (first | (with_reducible assumption) | (with_reducible refine ⟨?_, ?_⟩) | (with_reducible refine pdrew_cell ?_))))
      (first | (go_at_call 48; refine (HRY.out _ (Keeps.refl _ _).drew).mono ?_; rintro e w2 ⟨rfl, hk2⟩; have hkk : Keeps [] w w2 := hk2.pre1; have j0 := cell_keep hkk (by simp) p0; have k0 := cell_keep hkk (by simp) q0; have k1 := cell_keep hkk (by simp) q1; have k2 := cell_keep hkk (by simp) q2; have k3 := cell_keep hkk (by simp) q3; have HK2 := hid hkk; clear hk2 hkk) | fail)
    go_wp2_with fail
    go_quiet (fail)
    go_wp2_with fail
    go_ret2
    exact ⟨rfl, (HQ.out.keeps HK2.out (by simp)).drewN _, (HK2.out.mono (by simp)).drewN _⟩
end Go.Proofs.Ytkeffebcmajhmaa
