/- The reference's net: Connect by contract. -/
import Derived.Test.YtkeffebcmajhmaaPq11
namespace Go.Proofs.Ytkeffebcmajhmaa
open Go.RowKit
set_option linter.unusedVariables false
set_option linter.unusedSimpArgs false
theorem rnptr_info : (Try.prog.info? rc.PT).map (fun i => (i.zero, i.size, i.bytes)) = some (some (.pointer none), 1, 8) := by kernel_rfl
theorem Keeps.undrew {w w' : World} {F : List Nat} {o : Obj} (h : Keeps F (w.drew.alloc o) w') : Keeps F (w.alloc o) w' := ⟨h.os, h.tape, h.output, h.size, h.block⟩
set_option maxRecDepth 100000 in
set_option maxHeartbeats 8000000 in
theorem rconnect_any (n : Nat) (F : List Nat) (N : NS) (B peer : Int) (w : World) (h : NRep rc w n F N) (hN : OkN N B) (hB : B ≤ 1099511627776) :
    Calls Try.prog 79 #[.pointer (some ⟨n, 0, none⟩), .int .i64 peer] w fun e w' => e = .returned (.tuple #[.int .i64 (connectN N peer).2.1, .int .i64 (connectN N peer).2.2]) ∧ NDone rc w n F (connectN N peer).1 w' := by
  obtain ⟨own, ps, vc, vq, h⟩ := h
  have H := hid h
  have HOK := hid hN
  have hb := h.blk
  obtain ⟨vcA, vcc, rfl, -, hvcm, -⟩ := h.rc.form
  obtain ⟨vqA, vqc, rfl, -, hvqm, -⟩ := h.rq.form
  have c0 := hb.cell 0
  have c1 := hb.cell 1
  have c2 := hb.cell 2
  have c4 := hb.cell 4
  have c5 := hb.cell 5
  simp [rc] at c0 c1 c2 c4 c5
  have hq1 := hN.ql
  have hq2 := hN.b1
  have hcl := hN.cl
  have hm0 := hN.m0
  have hm1 := hN.m1
  unfold maxLen at hvcm hvqm
  have HSAME : Hid (∀ w', Keeps [] w w' → NDone rc w n F N w') := hid fun w' hk => NDone.same ⟨own, ps, _, _, H.out⟩ hk
  clear h hN hb
  by_cases p0 : peer < 0 ∨ (0 ≤ peer ∧ 255 < peer)
  · have e : connectN N peer = (N, 0, 1) := by unfold connectN; rw [if_pos (by omega)]
    rw [e]
    clear e
    rcases p0 with p0 | ⟨p1, p0⟩
    all_goals
      go_enter Try.func79, Try.ntmps79
      go_wp2
      go_ret2
      exact ⟨rfl, HSAME.out _ (Keeps.refl _ _)⟩
  · have p1 : 0 ≤ peer := by omega
    have p2 : peer ≤ 255 := by omega
    clear p0
    obtain ⟨st, hst⟩ : ∃ st, N.stopped = st := ⟨_, rfl⟩
    rw [hst] at c4
    cases st with
    | true =>
      have e : connectN N peer = (N, 0, 6) := by unfold connectN; rw [if_neg (by omega), if_pos hst]
      rw [e]
      clear e hst
      go_enter Try.func79, Try.ntmps79
      go_wp2
      go_ret2
      exact ⟨rfl, HSAME.out _ (Keeps.refl _ _)⟩
    | false =>
      by_cases hfull : N.backlog ≤ N.queue.length ∨ 65536 ≤ N.cs.length
      · have e : connectN N peer = (N, 0, 3) := by unfold connectN; rw [if_neg (by omega), if_neg (by simp [hst]), if_pos hfull]
        rw [e]
        clear e hst
        rcases (by omega : N.backlog ≤ (N.queue.length : Int) ∨ (¬ N.backlog ≤ (N.queue.length : Int) ∧ 65536 ≤ (N.cs.length : Int))) with g | ⟨g0, g⟩
        · have d1 : decide (N.backlog ≤ (N.queue.length : Int)) = true := by simpa using g
          go_enter Try.func79, Try.ntmps79
          go_wp2_with fail
          go_quiet (fail)
          go_wp2
          go_ret2
          exact ⟨rfl, HSAME.out _ ((Keeps.refl [] w).drewN _)⟩
        · have d1 : decide (N.backlog ≤ (N.queue.length : Int)) = false := by simpa using g0
          have d2 : decide ((65536 : Int) ≤ (N.cs.length : Int)) = true := by simpa using g
          go_enter Try.func79, Try.ntmps79
          go_wp2_with fail
          go_quiet (fail)
          go_wp2
          go_ret2
          exact ⟨rfl, HSAME.out _ ((Keeps.refl [] w).drewN _)⟩
      · have e : connectN N peer = ({ N with cs := N.cs ++ [newCn peer], queue := N.queue ++ [N.cs.length], marks := N.marks + 1 }, (N.cs.length : Int), 0) := by
          unfold connectN
          rw [if_neg (by omega), if_neg (by simp [hst]), if_neg hfull]
        have HE := hid e
        have d1 : decide (N.backlog ≤ (N.queue.length : Int)) = false := by simp; omega
        have d3 : decide (peer < 0) = false := by simpa using p1
        have d4 : decide (255 < peer) = false := by simpa using p2
        have d2 : decide ((65536 : Int) ≤ (N.cs.length : Int)) = false := by simp; omega
        obtain ⟨i1, hi1, hy0, hy1, hy2⟩ := info_parts rnptr_info
        obtain ⟨j1, hj1, hx0, hx1, hx2⟩ := info_parts int_info
        have hw1 : IntKind.i64.wrap (N.marks + 1) = N.marks + 1 := IntWalk.i64_in _ (by omega)
        obtain ⟨M, hM⟩ : ∃ M, N.cs.length + 1 = M := ⟨_, rfl⟩
        have hw2 : IntKind.i64.wrap ((M : Int) - 1) = (N.cs.length : Int) := by rw [IntWalk.i64_in _ (by omega)]; omega
        have HMM := hid hM
        have nvc : n ∉ (Value.slice vcA N.cs.length vcc).ownBlock.toList := fun hx => by
          have := H.out.oc n (by simpa using hx)
          rw [H.out.tn] at this
          omega
        have nvq : n ∉ (Value.slice vqA N.queue.length vqc).ownBlock.toList := fun hx => by
          have := H.out.oq n (by simpa using hx)
          rw [H.out.tn] at this
          omega
        have cvq : ∀ k, (Value.slice vqA N.queue.length vqc).ownBlock = some k → k ∉ (Value.slice vcA N.cs.length vcc).ownBlock.toList := fun k e1 hx => by
          have a := H.out.oq k e1
          have b := H.out.oc k (by simpa using hx)
          omega
        have HB := hid H.out.blk
        have HQ := hid H.out.rq
        have HC := hid H.out.rc
        have HNVC := hid nvc
        have HNVQ := hid nvq
        have HCVQ := hid cvq
        clear nvc nvq cvq e hst hfull hM
        rw [HE.out]
        simp only
        go_enter Try.func79, Try.ntmps79
        go_wp2_with fail
        go_quiet (fail)
        rename_i nq
        go_wp2_with (at_builtin; refine wpList_append_row _ rfl (.tmp 38) (.tmp 42) _ rfl 168 i1 _ 1 8 Try.underlying106 hi1 hy0 hy1 hy2 rfl (by omega) (.slice vcA N.cs.length vcc) N.cs.length _ rfl ((((HC.out.drewN _).alloc _).alloc _)) (some ⟨w.heap.size + 1, 0, none⟩) 1 1 [.pointer (some ⟨w.heap.size, 0, none⟩)] rfl (reads_blk1 (Blk.newAt (by simp))) (by simp [Value.oneCell']) (by simp only [maxLen]; omega) (by omega) ?_; intro v5 w5 hv5 hk5 ho5; rw [HMM.out] at hv5; obtain ⟨A5, q5, rfl, -⟩ := hv5.form; have b5 := (((HB.out.drewN nq).alloc _).alloc _).keeps hk5 HNVC.out; have e1 := b5.cell 1; have f1 := b5.frozen 1; simp [rc] at e1; have B5 := hid b5; have HV5 := hid hv5; have HK5 := hid hk5; have HO5 := hid ho5; clear b5 hv5 hk5 ho5)
        obtain ⟨W1, hW1⟩ : ∃ W, ((w.drewN nq).alloc (.cells (rc.lay (newCn peer) (.slice none 0 0) (.slice none 0 0) (.slice none 0 0)) rc.T)).alloc (.cells #[.pointer (some ⟨w.heap.size, 0, none⟩)] rc.PT) = W := ⟨_, rfl⟩
        have hk5 : Keeps (Value.slice vcA N.cs.length vcc).ownBlock.toList W1 w5 := by rw [← hW1]; exact HK5.out
        have ho5 : ∀ k, (Value.slice A5 M q5).ownBlock = some k → (Value.slice vcA N.cs.length vcc).ownBlock = some k ∨ W1.heap.size ≤ k := by rw [← hW1]; exact HO5.out
        have hz1 : W1.heap.size = w.heap.size + 2 := by rw [← hW1]; simp
        have hk01 : Keeps [] w W1 := by rw [← hW1]; exact (((Keeps.refl [] w).drewN _).alloc _).alloc _
        have hbp : Blk W1 w.heap.size rc.T (rc.lay (newCn peer) (.slice none 0 0) (.slice none 0 0) (.slice none 0 0)) := by rw [← hW1]; exact (Blk.newAt (by simp)).alloc _
        clear hW1 HK5 HO5
        obtain ⟨wy, hwy⟩ : ∃ x, w5.setCell ⟨n, 1, none⟩ (.slice A5 M q5) = x := ⟨_, rfl⟩
        rw [hwy]
        have pne : w.heap.size ≠ n := by have := H.out.blk.lt; omega
        have b5 := B5.out
        have hby : Blk wy n rc.NT (rc.nlay N (.slice A5 M q5) (Value.slice vqA N.queue.length vqc)) := by rw [← hwy]; simpa [rc] using b5.set_ 1 (.slice A5 M q5)
        have p5 := hbp.keeps hk5 (fun hx => by have := HC.out.lt _ (by simpa using hx); omega)
        have py : Blk wy w.heap.size rc.T (rc.lay (newCn peer) (.slice none 0 0) (.slice none 0 0) (.slice none 0 0)) := by rw [← hwy]; exact p5.far (p := ⟨n, 1, none⟩) pne _
        have ry : Row wy 168 1 (.slice A5 M q5) M (ptrsV ps ++ [.pointer (some ⟨w.heap.size, 0, none⟩)]) := by rw [← hwy]; exact HV5.out.far (p := ⟨n, 1, none⟩) (fun k e => HV5.out.blk_ne b5 (by decide) k e) _
        have q0 : Row w5 3 1 (Value.slice vqA N.queue.length vqc) N.queue.length (natsV N.queue) := (HQ.out.keeps hk01 (by simp)).keeps hk5 HCVQ.out
        have qy : Row wy 3 1 (Value.slice vqA N.queue.length vqc) N.queue.length (natsV N.queue) := by rw [← hwy]; exact q0.far (p := ⟨n, 1, none⟩) (fun k e => q0.blk_ne b5 (by decide) k e) _
        have hky : Keeps (n :: ((Value.slice vcA N.cs.length vcc).ownBlock.toList ++ (Value.slice vqA N.queue.length vqc).ownBlock.toList)) w wy := by
          rw [← hwy]
          exact ((hk01.mono (G := n :: ((Value.slice vcA N.cs.length vcc).ownBlock.toList ++ (Value.slice vqA N.queue.length vqc).ownBlock.toList)) (by simp)).trans hk5 (fun g hg => .inl (by simp at hg; simp [hg]))).setCell (p := ⟨n, 1, none⟩) (.inl (by simp)) _
        have y1 := hby.cell 1
        have y2 := hby.cell 2
        simp [rc] at y1 y2
        have y1' := fun o => alloc_cell y1 o
        have y2' := fun o => alloc_cell y2 o
        have BY := hid hby
        have PY := hid py
        have RY := hid ry
        have QY := hid qy
        have KY := hid hky
        have HO5 := hid ho5
        have HPNE := hid pne
        clear hwy b5 hby p5 py ry q0 qy hky ho5 hk5 hk01 hbp pne B5 HV5
        go_region_law (first
          | (refine step_append_row _ (by rfl) _ _ _ (by rfl) 3 j1 _ 1 8 Try.underlying22 hj1 hx0 hx1 hx2 rfl (by omega) (Value.slice vqA N.queue.length vqc) N.queue.length _ (by rfl) ((Row.drew QY.out).alloc _) (some ⟨wy.heap.size, 0, none⟩) 1 1 [.int .i64 (N.cs.length : Int)] (by rfl) (reads_blk1 (by exact Blk.new wy _ _)) (by simp [Value.oneCell']) (by simp only [maxLen]; omega) (by omega) ?_; intro v6 w6 hv6 hk6 ho6; obtain ⟨A6, q6, rfl, -⟩ := hv6.form; have hk7 : Keeps (Value.slice vqA N.queue.length vqc).ownBlock.toList (wy.alloc (.cells #[.int .i64 (N.cs.length : Int)] 3)) w6 := ⟨hk6.os, hk6.tape, hk6.output, hk6.size, hk6.block⟩; have b6 := (BY.out.alloc (.cells #[.int .i64 (N.cs.length : Int)] 3)).keeps hk7 HNVQ.out; have g1 := b6.cell 1; have g2 := b6.cell 2; have g5 := b6.cell 5; have k2 := b6.frozen 2; have k5 := b6.frozen 5; simp [rc] at g1 g2 g5; have B6 := hid b6; have HV6 := hid hv6; have HO6 := hid ho6; have HK7 := hid hk7; clear hv6 ho6 hk6 hk7 b6))
        all_goals
          go_wp2_with fail
          go_ret2
          have b7 := (B6.out.set_ 2 (.slice A6 (N.queue.length + 1) q6)).set_ 5 (.int .i64 (N.marks + 1))
          have p6 := (PY.out.alloc (.cells #[.int .i64 (N.cs.length : Int)] 3)).keeps HK7.out (fun hx => by have := H.out.rq.lt _ (by simpa using hx); omega)
          have p7 := (p6.far (p := ⟨n, 2, none⟩) HPNE.out (.slice A6 (N.queue.length + 1) q6)).far (p := ⟨n, 5, none⟩) HPNE.out (.int .i64 (N.marks + 1))
          have cq := (RY.out.alloc (.cells #[.int .i64 (N.cs.length : Int)] 3)).disj (QY.out.alloc (.cells #[.int .i64 (N.cs.length : Int)] 3)) (by decide)
          have r6 := (RY.out.alloc (.cells #[.int .i64 (N.cs.length : Int)] 3)).keeps HK7.out (fun k e hx => cq k e (by simpa using hx))
          have r7 := r6.far (p := ⟨n, 2, none⟩) (fun k e => r6.blk_ne B6.out (by decide) k e) (.slice A6 (N.queue.length + 1) q6)
          have r8 := r7.far (p := ⟨n, 5, none⟩) (fun k e => r7.blk_ne (B6.out.set_ 2 _) (by decide) k e) (.int .i64 (N.marks + 1))
          have q6' := HV6.out.far (p := ⟨n, 2, none⟩) (fun k e => HV6.out.blk_ne B6.out (by decide) k e) (.slice A6 (N.queue.length + 1) q6)
          have q7 := q6'.far (p := ⟨n, 5, none⟩) (fun k e => q6'.blk_ne (B6.out.set_ 2 _) (by decide) k e) (.int .i64 (N.marks + 1))
          have K7 := (((KY.out.alloc (.cells #[.int .i64 (N.cs.length : Int)] 3)).trans HK7.out (fun g hg => .inl (by simp at hg; simp [hg]))).setCell (p := ⟨n, 2, none⟩) (.inl (by simp)) (.slice A6 (N.queue.length + 1) q6)).setCell (p := ⟨n, 5, none⟩) (.inl (by simp)) (.int .i64 (N.marks + 1))
          have hsz := KY.out.size
          have hnF : n ∈ F := H.out.ftag n (by rw [H.out.tn]; omega)
          obtain ⟨F', hr, hl⟩ := H.out.push (G := n :: ((Value.slice vcA N.cs.length vcc).ownBlock.toList ++ (Value.slice vqA N.queue.length vqc).ownBlock.toList)) (p := w.heap.size) (d := newCn peer) (vc' := .slice A5 M q5) (vq' := .slice A6 (N.queue.length + 1) q6) (N' := { N with cs := N.cs ++ [newCn peer], queue := N.queue ++ [N.cs.length], marks := N.marks + 1 }) (by rfl) K7 (by
            intro k hk _
            simp only [List.mem_cons, List.mem_append, Option.mem_toList] at hk
            rcases hk with rfl | e | e
            · exact .inl H.out.tn
            · exact .inr (.inl (H.out.oc k e))
            · exact .inr (.inr (H.out.oq k e))) (Nat.le_refl _) (by simpa [rc] using b7) (by rw [← HMM.out] at r8 ⊢; simpa [ptrsV, rc] using r8) (by simpa [natsV] using q7) p7 ⟨rfl, rfl, rfl⟩ (by
            intro k e
            rcases HO5.out k e with h1 | h1
            · exact .inl ⟨H.out.rc.lt k h1, H.out.oc k h1⟩
            · exact .inr (by omega)) (by
            intro k e
            rcases HO6.out k e with h1 | h1
            · exact .inl ⟨H.out.rq.lt k h1, H.out.oq k h1⟩
            · simp at h1
              exact .inr (by omega)) ⟨by
            intro e
            rcases HO5.out _ e with h1 | h1
            · have := H.out.rc.lt _ h1
              omega
            · omega, by
            intro e
            rcases HO6.out _ e with h1 | h1
            · have := H.out.rq.lt _ h1
              omega
            · simp at h1
              omega, fun k _ e => r8.disj q7 (by decide) k e⟩
          refine ⟨rfl, ⟨F', hr.keeps (K := []) (by (repeat (first | exact Keeps.refl _ _ | apply Keeps.drewN | apply Keeps.drew))) (by simp), hl⟩, ?_⟩
          refine Keeps.mono (F := n :: ((Value.slice vcA N.cs.length vcc).ownBlock.toList ++ (Value.slice vqA N.queue.length vqc).ownBlock.toList)) ?_ (fun g hg => ?_)
          · (repeat (first | exact K7 | apply Keeps.drewN | apply Keeps.drew))
          · simp only [List.mem_cons, List.mem_append, Option.mem_toList] at hg
            rcases hg with rfl | e | e
            · exact hnF
            · exact H.out.ftag g (by rw [H.out.oc g e]; omega)
            · exact H.out.ftag g (by rw [H.out.oq g e]; omega)
end Go.Proofs.Ytkeffebcmajhmaa
