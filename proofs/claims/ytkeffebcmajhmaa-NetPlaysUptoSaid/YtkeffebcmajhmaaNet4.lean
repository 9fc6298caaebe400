/- The program's net: Connect, Inject, Len, Accept by contract. -/
import Derived.Test.YtkeffebcmajhmaaNet3
namespace Go.Proofs.Ytkeffebcmajhmaa
open Go.RowKit
set_option linter.unusedVariables false
theorem connect_nil (peer : Int) (w : World) : Calls Try.prog 37 #[.pointer none, .int .i64 peer] w fun e w' => e = .returned (.tuple #[.int .i64 0, .int .i64 1]) ∧ Keeps [] w w' := by
  go_enter Try.func37, Try.ntmps37
  go_wp2
  go_ret2
  exact ⟨rfl, Keeps.refl _ _⟩
set_option maxRecDepth 100000 in
set_option maxHeartbeats 1000000 in
theorem connect_any (n : Nat) (F : List Nat) (N : NS) (B peer : Int) (w : World) (h : NRep pc w n F N) (hN : OkN N B) (hB : B ≤ 1099511627776) :
    Calls Try.prog 37 #[.pointer (some ⟨n, 0, none⟩), .int .i64 peer] w fun e w' => e = .returned (.tuple #[.int .i64 (connectN N peer).2.1, .int .i64 (connectN N peer).2.2]) ∧ NDone pc w n F (connectN N peer).1 w' := by
  obtain ⟨own, ps, vc, vq, h⟩ := h
  have H := hid h
  have HOK := hid hN
  have hb := h.blk
  obtain ⟨vcA, vcc, rfl, -, hvcm, -⟩ := h.rc.form
  obtain ⟨vqA, vqc, rfl, -, hvqm, -⟩ := h.rq.form
  have c0 := hb.cell 0
  have c1 := hb.cell 1
  have c2 := hb.cell 2
  have c3 := hb.cell 3
  have c5 := hb.cell 5
  simp [pc] at c0 c1 c2 c3 c5
  have hq1 := hN.ql
  have hq2 := hN.b1
  have hcl := hN.cl
  have hm0 := hN.m0
  have hm1 := hN.m1
  unfold maxLen at hvcm hvqm
  have HSAME : Hid (∀ w', Keeps [] w w' → NDone pc w n F N w') := hid fun w' hk => NDone.same ⟨own, ps, _, _, H.out⟩ hk
  clear h hN hb
  by_cases p0 : peer < 0 ∨ (0 ≤ peer ∧ 255 < peer)
  · have e : connectN N peer = (N, 0, 1) := by unfold connectN; rw [if_pos (by omega)]
    rw [e]
    clear e
    rcases p0 with p0 | ⟨p1, p0⟩
    all_goals
      go_enter Try.func37, Try.ntmps37
      go_wp2
      go_ret2
      exact ⟨rfl, HSAME.out _ (Keeps.refl _ _)⟩
  · have p1 : 0 ≤ peer := by omega
    have p2 : peer ≤ 255 := by omega
    clear p0
    obtain ⟨st, hst⟩ : ∃ st, N.stopped = st := ⟨_, rfl⟩
    rw [hst] at c3
    cases st with
    | true =>
      have e : connectN N peer = (N, 0, 6) := by unfold connectN; rw [if_neg (by omega), if_pos hst]
      rw [e]
      clear e hst
      go_enter Try.func37, Try.ntmps37
      go_wp2
      go_ret2
      exact ⟨rfl, HSAME.out _ (Keeps.refl _ _)⟩
    | false =>
      by_cases hfull : N.backlog ≤ N.queue.length ∨ 65536 ≤ N.cs.length
      · have e : connectN N peer = (N, 0, 3) := by unfold connectN; rw [if_neg (by omega), if_neg (by simp [hst]), if_pos hfull]
        rw [e]
        clear e hst
        rcases (by omega : N.backlog ≤ (N.queue.length : Int) ∨ (¬ N.backlog ≤ (N.queue.length : Int) ∧ 65536 ≤ (N.cs.length : Int))) with g | ⟨g0, g⟩
        · have d1 : decide (N.backlog ≤ (N.queue.length : Int)) = true := by simpa using g
          go_enter Try.func37, Try.ntmps37
          go_wp2_with fail
          go_quiet (fail)
          go_wp2
          go_ret2
          exact ⟨rfl, HSAME.out _ ((Keeps.refl [] w).drewN _)⟩
        · have d1 : decide (N.backlog ≤ (N.queue.length : Int)) = false := by simpa using g0
          have d2 : decide ((65536 : Int) ≤ (N.cs.length : Int)) = true := by simpa using g
          go_enter Try.func37, Try.ntmps37
          go_wp2_with fail
          go_quiet (fail)
          go_wp2
          go_ret2
          exact ⟨rfl, HSAME.out _ ((Keeps.refl [] w).drewN _)⟩
      · have e : connectN N peer = ({ N with cs := N.cs ++ [newCn peer], queue := N.queue ++ [N.cs.length], marks := N.marks + 1 }, (N.cs.length : Int), 0) := by
          unfold connectN
          rw [if_neg (by omega), if_neg (by simp [hst]), if_neg hfull]
        have HE := hid e
        have d1 : decide (N.backlog ≤ (N.queue.length : Int)) = false := by simp; omega
        have d3 : decide (peer < 0) = false := by simpa using p1
        have d4 : decide (255 < peer) = false := by simpa using p2
        have d2 : decide ((65536 : Int) ≤ (N.cs.length : Int)) = false := by simp; omega
        obtain ⟨i1, hi1, hy0, hy1, hy2⟩ := info_parts nptr_info
        obtain ⟨j1, hj1, hx0, hx1, hx2⟩ := info_parts int_info
        have hw1 : IntKind.i64.wrap (N.marks + 1) = N.marks + 1 := IntWalk.i64_in _ (by omega)
        have nvc : n ∉ (Value.slice vcA N.cs.length vcc).ownBlock.toList := fun hx => by
          have := H.out.oc n (by simpa using hx)
          rw [H.out.tn] at this
          omega
        have nvq : n ∉ (Value.slice vqA N.queue.length vqc).ownBlock.toList := fun hx => by
          have := H.out.oq n (by simpa using hx)
          rw [H.out.tn] at this
          omega
        have cvq : ∀ k, (Value.slice vqA N.queue.length vqc).ownBlock = some k → k ∉ (Value.slice vcA N.cs.length vcc).ownBlock.toList := fun k e1 hx => by
          have a := H.out.oq k e1
          have b := H.out.oc k (by simpa using hx)
          omega
        have HB := hid H.out.blk
        have HQ := hid H.out.rq
        have HC := hid H.out.rc
        have HNVC := hid nvc
        have HNVQ := hid nvq
        have HCVQ := hid cvq
        clear nvc nvq cvq e hst hfull
        rw [HE.out]
        simp only
        go_enter Try.func37, Try.ntmps37
        go_wp2_with fail
        go_quiet (fail)
        rename_i nq
        have hk0 : Keeps [] w (w.drewN nq) := (Keeps.refl [] w).drewN nq
        go_wp2_with (first
          | (at_builtin; refine wpList_append_row _ rfl (.tmp 51) (.tmp 56) _ rfl 143 i1 _ 1 8 Try.underlying140 hi1 hy0 hy1 hy2 rfl (by omega) (.slice vcA N.cs.length vcc) N.cs.length _ rfl ((((HC.out.drewN _).alloc _).alloc _)) (some ⟨w.heap.size + 1, 0, none⟩) 1 1 [.pointer (some ⟨w.heap.size, 0, none⟩)] rfl (reads_blk1 (Blk.newAt (by simp))) (by simp [Value.oneCell']) (by simp only [maxLen]; omega) (by omega) ?_; intro v5 w5 hv5 hk5 ho5; obtain ⟨A5, q5, rfl, -⟩ := hv5.form; have b5 := (((HB.out.drewN nq).alloc _).alloc _).keeps hk5 HNVC.out; have e1 := b5.cell 1; have e2 := b5.cell 2; have e5 := b5.cell 5; have f1 := b5.frozen 1; have f2 := b5.frozen 2; have f5 := b5.frozen 5; simp [pc] at e1 e2 e5; have hq5 := (((HQ.out.drewN nq).alloc _).alloc _).keeps hk5 HCVQ.out; have HQ5 := hid (hq5.far (p := ⟨n, 1, none⟩) (fun k e => hq5.blk_ne b5 (by decide) k e) (.slice A5 (N.cs.length + 1) q5)); have B5 := hid b5; have HV5 := hid hv5; have HK5 := hid hk5; have HO5 := hid ho5; clear hq5 b5 hv5 hk5 ho5)
          | (at_builtin; refine wpList_append_row _ rfl (.tmp 64) (.tmp 66) _ rfl 3 j1 _ 1 8 Try.underlying22 hj1 hx0 hx1 hx2 rfl (by omega) (.slice vqA N.queue.length vqc) N.queue.length _ rfl (HQ5.out.alloc _) (some ⟨w5.heap.size, 0, none⟩) 1 1 [.int .i64 (N.cs.length : Int)] rfl (reads_blk1 (Blk.newAt (by simp [World.setCell]))) (by simp [Value.oneCell']) (by simp only [maxLen]; omega) (by omega) ?_; intro v6 w6 hv6 hk6 ho6; obtain ⟨A6, q6, rfl, -⟩ := hv6.form; have b6 := ((B5.out.set_ 1 _).alloc _).keeps hk6 HNVQ.out; have g5 := b6.cell 5; have g2 := b6.cell 2; have k2 := b6.frozen 2; have k5 := b6.frozen 5; simp [pc] at g5 g2; have HV6 := hid hv6; have HK6 := hid hk6; have HO6 := hid ho6; clear b6 hv6 hk6 ho6))
        go_ret2
        exact ⟨rfl, NDone.pre (connect_done (H.out.keeps hk0 (by simp)) HV5.out HK5.out HO5.out HV6.out HK6.out HO6.out)⟩
end Go.Proofs.Ytkeffebcmajhmaa
