/- The reference's net: Stop by contract. -/
import Derived.Test.YtkeffebcmajhmaaPq15
import Derived.Test.YtkeffebcmajhmaaPq03
namespace Go.Proofs.Ytkeffebcmajhmaa
open Go.RowKit
set_option linter.unusedVariables false
set_option linter.unusedSimpArgs false
set_option maxRecDepth 100000 in
set_option maxHeartbeats 8000000 in
theorem rstop_any (n : Nat) (F : List Nat) (N : NS) (B : Int) (w : World) (h : NRep rc w n F N) (hN : OkN N B) :
    Calls Try.prog 92 #[.pointer (some ⟨n, 0, none⟩)] w fun e w' => e = .returned (.tuple #[]) ∧ NDone rc w n F (stopN N) w' := by
  obtain ⟨own, ps, vc, vq, h⟩ := h
  have H := hid h
  have HOK := hid hN
  have hnF : n ∈ F := h.ftag n (by rw [h.tn]; omega)
  obtain ⟨A, cap, hvq, hq1, hqm, -⟩ := h.rq.form
  have c4 := h.blk.cell 4
  have f4 := h.blk.frozen 4
  simp [rc] at c4
  have HS0 : Hid (NAt rc (w.setCell ⟨n, 4, none⟩ (.bool true)) n F own ps vc vq { N with stopped := true }) := by
    refine hid (h.own_ rfl rfl ((Keeps.refl [n] w).setCell (p := ⟨n, 4, none⟩) (.inl (by simp)) _) ?_)
    simpa [rc] using h.blk.set_ 4 (.bool true)
  obtain ⟨l, hl⟩ : ∃ l, N.queue.length = l := ⟨_, rfl⟩
  have hl64 : l ≤ 64 := by
    have := hN.ql
    have := hN.b1
    omega
  rw [hl] at hvq
  have HVQ := hid hvq
  have HL := hid hl
  clear h hN hvq hl
  go_enter Try.func92, Try.ntmps92
  go_wp2_with fail
  go_loopw [2] (fun jv wr => ∃ k : Nat, k ≤ l ∧ jv = .int .i64 k ∧ NAt rc wr n F own ps vc vq (stops { N with stopped := true } (N.queue.take k)) ∧ Keeps F w wr) (fun jv _ => l - (intOf jv).toNat)
  case atStart => exact ⟨0, Nat.zero_le _, rfl, by simpa [stops] using HS0.out, (Keeps.refl F w).setCell (p := ⟨n, 4, none⟩) (.inl hnF) _⟩
  case round =>
    clear HS0
    obtain ⟨k, hk, rfl, hS, hkp⟩ := hrel
    have HS := hid hS
    have HKP := hid hkp
    clear hS hkp
    obtain ⟨NK, hNK⟩ : ∃ M, stops { N with stopped := true } (N.queue.take k) = M := ⟨_, rfl⟩
    have hqq : NK.queue = N.queue := by rw [← hNK, stops_queue]
    have hll : NK.cs.length = N.cs.length := by rw [← hNK, stops_len]
    rw [hNK] at HS
    have HNK := hid hNK
    have HQQ := hid hqq
    have HLL := hid hll
    clear hNK hqq hll
    have n1 := HS.out.blk.cell 1
    have n2 := HS.out.blk.cell 2
    simp [rc] at n1 n2
    rw [HVQ.out] at n2
    by_cases hlt : k < l
    · obtain ⟨q, hq⟩ : ∃ q, N.queue[k]? = some q := ⟨N.queue[k]'(by rw [HL.out]; exact hlt), List.getElem?_eq_getElem _⟩
      obtain ⟨d0, hd0, -⟩ := HOK.out.qw q (List.mem_of_getElem? hq)
      have hqlt : q < NK.cs.length := by rw [HLL.out]; exact (List.getElem?_eq_some_iff.1 hd0).1
      obtain ⟨d, hd⟩ : ∃ d, NK.cs[q]? = some d := ⟨NK.cs[q], List.getElem?_eq_getElem hqlt⟩
      obtain ⟨g, qo, qc, hgq, -, -, hqcell, -, -⟩ := HS.out.rq.open_ (by rw [HQQ.out, HL.out]; omega)
      have hA : A = some ⟨g, qo, none⟩ := by
        have := HVQ.out
        rw [this] at hgq
        injection hgq
      subst hA
      have q0 := hqcell k (.int .i64 q) (by rw [HQQ.out]; simp [natsV, hq])
      obtain ⟨p, b, off, ccap, hp, hvc, -, hle, hccm, hcb, hbn, vi, vo, vt, hc⟩ := HS.out.conn hd
      rw [hvc] at n1
      have hki : (k : Int) < l := by omega
      have hqi : (q : Int) < NK.cs.length := by omega
      have hpT : Blk wr p rc.T _ := hc.1
      have hbp : b ≠ p := fun e => by
        have a1 := HS.out.oc b (by rw [hvc]; simp [Value.ownBlock])
        have a2 := hc.2.1
        rw [← e, a1] at a2
        omega
      have hnp : n ≠ p := fun e => by
        have a1 := HS.out.tn
        have a2 := hc.2.1
        rw [e, a2] at a1
        omega
      have hgp : g ≠ p := fun e => by
        have a1 := HS.out.oq g (by rw [HVQ.out]; simp [Value.ownBlock])
        have a2 := hc.2.1
        rw [← e, a1] at a2
        omega
      have HC := hid hc
      have HP := hid hp
      have HD := hid hd
      have HVC := hid hvc
      have HNX : Hid (N.queue.take (k + 1) = N.queue.take k ++ [q]) := by
        rw [List.take_add_one, hq]
        exact hid rfl
      have hpF : p ∈ F := HS.out.ftag p (by rw [hc.2.1]; omega)
      clear hqcell hgq hq hd0 hd hp hc hqlt hvc hpT
      go_wp2_with fail
      obtain ⟨S, hSe⟩ : ∃ S : World → Prop, ∀ w', S w' ↔ (w'.cell? ⟨n, 1, none⟩ = some (.slice (some ⟨b, off, none⟩) NK.cs.length ccap) ∧ w'.cell? ⟨n, 2, none⟩ = some (.slice (some ⟨g, qo, none⟩) l cap) ∧ w'.cell? ⟨g, qo + k, none⟩ = some (.int .i64 q) ∧ w'.cell? ⟨b, off + q, none⟩ = some (.pointer (some ⟨p, 0, none⟩))) := ⟨_, fun _ => Iff.rfl⟩
      have hSw1 : S wr.drew := (hSe _).2 ⟨n1, n2, q0, hcb⟩
      have hSk : ∀ W, Keeps [p] wr W → S W := fun W hW => (hSe _).2 ⟨cell_keep hW (by simpa using hnp) n1, cell_keep hW (by simpa using hnp) n2, cell_keep hW (by simpa using hgp) q0, cell_keep hW (by simpa using hbp) hcb⟩
      refine wp_region_held_drew (S := S) (by kernel_rfl) hSw1 (fun hHeld => ?_)
      refine wpAnyH_take (i := 0) (v := ?_) rfl (by kernel_rfl) (by kernel_rfl) (by kernel_rfl) (fun _ _ _ h => h) ?_ (by assumption) ?_
      rotate_left 1
      · first | (apply Or.inl; constructor; rfl; intro W hSw; obtain ⟨s1', s2', s3', s4'⟩ := (hSe W).1 hSw; go_simp; try (with_reducible rfl)) | (apply Or.inr; constructor; rfl; rfl)
      try simp only [Act.put, List.getElem_toArray, List.getElem_cons_succ, List.getElem_cons_zero, List.setIfInBounds_toArray, List.set_cons_zero, List.set_cons_succ]
      refine wpAnyH_take (i := 1) (v := ?_) rfl (by kernel_rfl) (by kernel_rfl) (by kernel_rfl) (fun _ _ _ h => h) ?_ (by assumption) ?_
      rotate_left 1
      · first | (apply Or.inl; constructor; rfl; intro W hSw; obtain ⟨s1', s2', s3', s4'⟩ := (hSe W).1 hSw; go_simp; try (with_reducible rfl)) | (apply Or.inr; constructor; rfl; rfl)
      try simp only [Act.put, List.getElem_toArray, List.getElem_cons_succ, List.getElem_cons_zero, List.setIfInBounds_toArray, List.set_cons_zero, List.set_cons_succ]
      refine wpAnyH_take (i := 2) (v := ?_) rfl (by kernel_rfl) (by kernel_rfl) (by kernel_rfl) (fun _ _ _ h => h) ?_ (by assumption) ?_
      rotate_left 1
      · first | (apply Or.inl; constructor; rfl; intro W hSw; obtain ⟨s1', s2', s3', s4'⟩ := (hSe W).1 hSw; go_simp; try (with_reducible rfl)) | (apply Or.inr; constructor; rfl; rfl)
      try simp only [Act.put, List.getElem_toArray, List.getElem_cons_succ, List.getElem_cons_zero, List.setIfInBounds_toArray, List.set_cons_zero, List.set_cons_succ]
      refine wpAnyH_take (i := 3) (v := ?_) rfl (by kernel_rfl) (by kernel_rfl) (by kernel_rfl) (fun _ _ _ h => h) ?_ (by assumption) ?_
      rotate_left 1
      · first | (apply Or.inl; constructor; rfl; intro W hSw; obtain ⟨s1', s2', s3', s4'⟩ := (hSe W).1 hSw; go_simp; try (with_reducible rfl)) | (apply Or.inr; constructor; rfl; rfl)
      try simp only [Act.put, List.getElem_toArray, List.getElem_cons_succ, List.getElem_cons_zero, List.setIfInBounds_toArray, List.set_cons_zero, List.set_cons_succ]
      refine wpAnyH_take (i := 4) (v := ?_) rfl (by kernel_rfl) (by kernel_rfl) (by kernel_rfl) (fun _ _ _ h => h) ?_ (by assumption) ?_
      rotate_left 1
      · first | (apply Or.inl; constructor; rfl; intro W hSw; obtain ⟨s1', s2', s3', s4'⟩ := (hSe W).1 hSw; go_simp; try (with_reducible rfl)) | (apply Or.inr; constructor; rfl; rfl)
      try simp only [Act.put, List.getElem_toArray, List.getElem_cons_succ, List.getElem_cons_zero, List.setIfInBounds_toArray, List.set_cons_zero, List.set_cons_succ]
      refine wpAnyH_take (i := 5) (v := ?_) rfl (by kernel_rfl) (by kernel_rfl) (by kernel_rfl) (fun _ _ _ h => h) ?_ (by assumption) ?_
      rotate_left 1
      · first | (apply Or.inl; constructor; rfl; intro W hSw; obtain ⟨s1', s2', s3', s4'⟩ := (hSe W).1 hSw; go_simp; try (with_reducible rfl)) | (apply Or.inr; constructor; rfl; rfl)
      try simp only [Act.put, List.getElem_toArray, List.getElem_cons_succ, List.getElem_cons_zero, List.setIfInBounds_toArray, List.set_cons_zero, List.set_cons_succ]
      refine wpAnyH_take (i := 6) (v := ?_) rfl (by kernel_rfl) (by kernel_rfl) (by kernel_rfl) (fun _ _ _ h => h) ?_ (by assumption) ?_
      rotate_left 1
      · first | (apply Or.inl; constructor; rfl; intro W hSw; obtain ⟨s1', s2', s3', s4'⟩ := (hSe W).1 hSw; go_simp; try (with_reducible rfl)) | (apply Or.inr; constructor; rfl; rfl)
      try simp only [Act.put, List.getElem_toArray, List.getElem_cons_succ, List.getElem_cons_zero, List.setIfInBounds_toArray, List.set_cons_zero, List.set_cons_succ]
      refine wpAnyH_take (i := 7) (v := ?_) rfl (by kernel_rfl) (by kernel_rfl) (by kernel_rfl) (fun _ _ _ h => h) ?_ (by assumption) ?_
      rotate_left 1
      · first | (apply Or.inl; constructor; rfl; intro W hSw; obtain ⟨s1', s2', s3', s4'⟩ := (hSe W).1 hSw; go_simp; try (with_reducible rfl)) | (apply Or.inr; constructor; rfl; rfl)
      try simp only [Act.put, List.getElem_toArray, List.getElem_cons_succ, List.getElem_cons_zero, List.setIfInBounds_toArray, List.set_cons_zero, List.set_cons_succ]
      refine wpAnyH_take (i := 8) (v := ?_) rfl (by kernel_rfl) (by kernel_rfl) (by kernel_rfl) (fun _ _ _ h => h) ?_ (by assumption) ?_
      rotate_left 1
      · first | (apply Or.inl; constructor; rfl; intro W hSw; obtain ⟨s1', s2', s3', s4'⟩ := (hSe W).1 hSw; go_simp; try (with_reducible rfl)) | (apply Or.inr; constructor; rfl; rfl)
      try simp only [Act.put, List.getElem_toArray, List.getElem_cons_succ, List.getElem_cons_zero, List.setIfInBounds_toArray, List.set_cons_zero, List.set_cons_succ]
      refine wpAnyH_take (i := 9) (v := ?_) rfl (by kernel_rfl) (by kernel_rfl) (by kernel_rfl) (fun _ _ _ h => h) ?_ (by assumption) ?_
      rotate_left 1
      · first | (apply Or.inl; constructor; rfl; intro W hSw; obtain ⟨s1', s2', s3', s4'⟩ := (hSe W).1 hSw; go_simp; try (with_reducible rfl)) | (apply Or.inr; constructor; rfl; rfl)
      try simp only [Act.put, List.getElem_toArray, List.getElem_cons_succ, List.getElem_cons_zero, List.setIfInBounds_toArray, List.set_cons_zero, List.set_cons_succ]
      refine wpAnyH_take (i := 10) (v := ?_) rfl (by kernel_rfl) (by kernel_rfl) (by kernel_rfl) (fun _ _ _ h => h) ?_ (by assumption) ?_
      rotate_left 1
      · first | (apply Or.inl; constructor; rfl; intro W hSw; obtain ⟨s1', s2', s3', s4'⟩ := (hSe W).1 hSw; go_simp; try (with_reducible rfl)) | (apply Or.inr; constructor; rfl; rfl)
      try simp only [Act.put, List.getElem_toArray, List.getElem_cons_succ, List.getElem_cons_zero, List.setIfInBounds_toArray, List.set_cons_zero, List.set_cons_succ]
      refine wpAnyH_take (i := 11) (v := ?_) rfl (by kernel_rfl) (by kernel_rfl) (by kernel_rfl) (fun _ _ _ h => h) ?_ (by assumption) ?_
      rotate_left 1
      · first | (apply Or.inl; constructor; rfl; intro W hSw; obtain ⟨s1', s2', s3', s4'⟩ := (hSe W).1 hSw; go_simp; try (with_reducible rfl)) | (apply Or.inr; constructor; rfl; rfl)
      try simp only [Act.put, List.getElem_toArray, List.getElem_cons_succ, List.getElem_cons_zero, List.setIfInBounds_toArray, List.set_cons_zero, List.set_cons_succ]
      refine wpAnyH_take (i := 12) (v := ?_) rfl (by kernel_rfl) (by kernel_rfl) (by kernel_rfl) (fun _ _ _ h => h) ?_ (by assumption) ?_
      rotate_left 1
      · first | (apply Or.inl; constructor; rfl; intro W hSw; obtain ⟨s1', s2', s3', s4'⟩ := (hSe W).1 hSw; go_simp; try (with_reducible rfl)) | (apply Or.inr; constructor; rfl; rfl)
      try simp only [Act.put, List.getElem_toArray, List.getElem_cons_succ, List.getElem_cons_zero, List.setIfInBounds_toArray, List.set_cons_zero, List.set_cons_succ]
      refine wpAnyH_ready (rs := [13]) (by kernel_rfl) (by simp) ?_
      refine AllReadyH.cons rfl (fun K hK => ?_) AllReadyH.nil
      go_simp
      refine (rbreaks_any p _ _ HC.out.1.drew (by simp [rc])).mono ?_
      rintro e w2 ⟨rfl, hw2⟩
      have hk2 : Keeps [p] wr w2 := by rw [hw2]; exact ((((Keeps.refl [p] wr).drew.setCell (p := ⟨p, 4, none⟩) (.inl (by simp)) _).setCell (p := ⟨p, 7, none⟩) (.inl (by simp)) _).setCell (p := ⟨p, 10, none⟩) (.inl (by simp)) _)
      have hb2 := ((HC.out.1.drew.set_ 4 (.bool true)).set_ 7 (.slice none 0 0)).set_ 10 (.int .i64 0)
      rw [← hw2] at hb2
      refine hK.out _ _ (hSk _ hk2) (fun hHeld => ?_)
      clear hK K hw2
      refine wpAnyH_done (by kernel_rfl) ?_ _
      have p1 := hb2.cell 1
      have pf1 := hb2.frozen 1
      simp [rc] at p1
      have HK2 := hid hk2
      have HB2 := hid hb2
      clear hk2 hb2
      go_wp2_with fail
      have hS2 : S w2.drew := hSk _ HK2.out.drew
      refine wp_region_held_drew (S := S) (by kernel_rfl) hS2 (fun hHeld => ?_)
      refine wpAnyH_take (i := 0) (v := ?_) rfl (by kernel_rfl) (by kernel_rfl) (by kernel_rfl) (fun _ _ _ h => h) ?_ (by assumption) ?_
      rotate_left 1
      · first | (apply Or.inl; constructor; rfl; intro W hSw; obtain ⟨s1', s2', s3', s4'⟩ := (hSe W).1 hSw; go_simp; try (with_reducible rfl)) | (apply Or.inr; constructor; rfl; rfl)
      try simp only [Act.put, List.getElem_toArray, List.getElem_cons_succ, List.getElem_cons_zero, List.setIfInBounds_toArray, List.set_cons_zero, List.set_cons_succ]
      refine wpAnyH_take (i := 1) (v := ?_) rfl (by kernel_rfl) (by kernel_rfl) (by kernel_rfl) (fun _ _ _ h => h) ?_ (by assumption) ?_
      rotate_left 1
      · first | (apply Or.inl; constructor; rfl; intro W hSw; obtain ⟨s1', s2', s3', s4'⟩ := (hSe W).1 hSw; go_simp; try (with_reducible rfl)) | (apply Or.inr; constructor; rfl; rfl)
      try simp only [Act.put, List.getElem_toArray, List.getElem_cons_succ, List.getElem_cons_zero, List.setIfInBounds_toArray, List.set_cons_zero, List.set_cons_succ]
      refine wpAnyH_take (i := 2) (v := ?_) rfl (by kernel_rfl) (by kernel_rfl) (by kernel_rfl) (fun _ _ _ h => h) ?_ (by assumption) ?_
      rotate_left 1
      · first | (apply Or.inl; constructor; rfl; intro W hSw; obtain ⟨s1', s2', s3', s4'⟩ := (hSe W).1 hSw; go_simp; try (with_reducible rfl)) | (apply Or.inr; constructor; rfl; rfl)
      try simp only [Act.put, List.getElem_toArray, List.getElem_cons_succ, List.getElem_cons_zero, List.setIfInBounds_toArray, List.set_cons_zero, List.set_cons_succ]
      refine wpAnyH_take (i := 3) (v := ?_) rfl (by kernel_rfl) (by kernel_rfl) (by kernel_rfl) (fun _ _ _ h => h) ?_ (by assumption) ?_
      rotate_left 1
      · first | (apply Or.inl; constructor; rfl; intro W hSw; obtain ⟨s1', s2', s3', s4'⟩ := (hSe W).1 hSw; go_simp; try (with_reducible rfl)) | (apply Or.inr; constructor; rfl; rfl)
      try simp only [Act.put, List.getElem_toArray, List.getElem_cons_succ, List.getElem_cons_zero, List.setIfInBounds_toArray, List.set_cons_zero, List.set_cons_succ]
      refine wpAnyH_take (i := 4) (v := ?_) rfl (by kernel_rfl) (by kernel_rfl) (by kernel_rfl) (fun _ _ _ h => h) ?_ (by assumption) ?_
      rotate_left 1
      · first | (apply Or.inl; constructor; rfl; intro W hSw; obtain ⟨s1', s2', s3', s4'⟩ := (hSe W).1 hSw; go_simp; try (with_reducible rfl)) | (apply Or.inr; constructor; rfl; rfl)
      try simp only [Act.put, List.getElem_toArray, List.getElem_cons_succ, List.getElem_cons_zero, List.setIfInBounds_toArray, List.set_cons_zero, List.set_cons_succ]
      refine wpAnyH_take (i := 5) (v := ?_) rfl (by kernel_rfl) (by kernel_rfl) (by kernel_rfl) (fun _ _ _ h => h) ?_ (by assumption) ?_
      rotate_left 1
      · first | (apply Or.inl; constructor; rfl; intro W hSw; obtain ⟨s1', s2', s3', s4'⟩ := (hSe W).1 hSw; go_simp; try (with_reducible rfl)) | (apply Or.inr; constructor; rfl; rfl)
      try simp only [Act.put, List.getElem_toArray, List.getElem_cons_succ, List.getElem_cons_zero, List.setIfInBounds_toArray, List.set_cons_zero, List.set_cons_succ]
      refine wpAnyH_take (i := 6) (v := ?_) rfl (by kernel_rfl) (by kernel_rfl) (by kernel_rfl) (fun _ _ _ h => h) ?_ (by assumption) ?_
      rotate_left 1
      · first | (apply Or.inl; constructor; rfl; intro W hSw; obtain ⟨s1', s2', s3', s4'⟩ := (hSe W).1 hSw; go_simp; try (with_reducible rfl)) | (apply Or.inr; constructor; rfl; rfl)
      try simp only [Act.put, List.getElem_toArray, List.getElem_cons_succ, List.getElem_cons_zero, List.setIfInBounds_toArray, List.set_cons_zero, List.set_cons_succ]
      refine wpAnyH_take (i := 7) (v := ?_) rfl (by kernel_rfl) (by kernel_rfl) (by kernel_rfl) (fun _ _ _ h => h) ?_ (by assumption) ?_
      rotate_left 1
      · first | (apply Or.inl; constructor; rfl; intro W hSw; obtain ⟨s1', s2', s3', s4'⟩ := (hSe W).1 hSw; go_simp; try (with_reducible rfl)) | (apply Or.inr; constructor; rfl; rfl)
      try simp only [Act.put, List.getElem_toArray, List.getElem_cons_succ, List.getElem_cons_zero, List.setIfInBounds_toArray, List.set_cons_zero, List.set_cons_succ]
      refine wpAnyH_take (i := 8) (v := ?_) rfl (by kernel_rfl) (by kernel_rfl) (by kernel_rfl) (fun _ _ _ h => h) ?_ (by assumption) ?_
      rotate_left 1
      · first | (apply Or.inl; constructor; rfl; intro W hSw; obtain ⟨s1', s2', s3', s4'⟩ := (hSe W).1 hSw; go_simp; try (with_reducible rfl)) | (apply Or.inr; constructor; rfl; rfl)
      try simp only [Act.put, List.getElem_toArray, List.getElem_cons_succ, List.getElem_cons_zero, List.setIfInBounds_toArray, List.set_cons_zero, List.set_cons_succ]
      refine wpAnyH_take (i := 9) (v := ?_) rfl (by kernel_rfl) (by kernel_rfl) (by kernel_rfl) (fun _ _ _ h => h) ?_ (by assumption) ?_
      rotate_left 1
      · first | (apply Or.inl; constructor; rfl; intro W hSw; obtain ⟨s1', s2', s3', s4'⟩ := (hSe W).1 hSw; go_simp; try (with_reducible rfl)) | (apply Or.inr; constructor; rfl; rfl)
      try simp only [Act.put, List.getElem_toArray, List.getElem_cons_succ, List.getElem_cons_zero, List.setIfInBounds_toArray, List.set_cons_zero, List.set_cons_succ]
      refine wpAnyH_take (i := 10) (v := ?_) rfl (by kernel_rfl) (by kernel_rfl) (by kernel_rfl) (fun _ _ _ h => h) ?_ (by assumption) ?_
      rotate_left 1
      · first | (apply Or.inl; constructor; rfl; intro W hSw; obtain ⟨s1', s2', s3', s4'⟩ := (hSe W).1 hSw; go_simp; try (with_reducible rfl)) | (apply Or.inr; constructor; rfl; rfl)
      try simp only [Act.put, List.getElem_toArray, List.getElem_cons_succ, List.getElem_cons_zero, List.setIfInBounds_toArray, List.set_cons_zero, List.set_cons_succ]
      refine wpAnyH_take (i := 11) (v := ?_) rfl (by kernel_rfl) (by kernel_rfl) (by kernel_rfl) (fun _ _ _ h => h) ?_ (by assumption) ?_
      rotate_left 1
      · first | (apply Or.inl; constructor; rfl; intro W hSw; obtain ⟨s1', s2', s3', s4'⟩ := (hSe W).1 hSw; go_simp; try (with_reducible rfl)) | (apply Or.inr; constructor; rfl; rfl)
      try simp only [Act.put, List.getElem_toArray, List.getElem_cons_succ, List.getElem_cons_zero, List.setIfInBounds_toArray, List.set_cons_zero, List.set_cons_succ]
      refine wpAnyH_take (i := 12) (v := ?_) rfl (by kernel_rfl) (by kernel_rfl) (by kernel_rfl) (fun _ _ _ h => h) ?_ (by assumption) ?_
      rotate_left 1
      · first | (apply Or.inl; constructor; rfl; intro W hSw; obtain ⟨s1', s2', s3', s4'⟩ := (hSe W).1 hSw; go_simp; try (with_reducible rfl)) | (apply Or.inr; constructor; rfl; rfl)
      try simp only [Act.put, List.getElem_toArray, List.getElem_cons_succ, List.getElem_cons_zero, List.setIfInBounds_toArray, List.set_cons_zero, List.set_cons_succ]
      refine wpAnyH_take (i := 13) (v := ?_) rfl (by kernel_rfl) (by kernel_rfl) (by kernel_rfl) (fun _ _ _ h => h) ?_ (by assumption) ?_
      rotate_left 1
      · first | (apply Or.inl; constructor; rfl; intro W hSw; obtain ⟨s1', s2', s3', s4'⟩ := (hSe W).1 hSw; go_simp; try (with_reducible rfl)) | (apply Or.inr; constructor; rfl; rfl)
      try simp only [Act.put, List.getElem_toArray, List.getElem_cons_succ, List.getElem_cons_zero, List.setIfInBounds_toArray, List.set_cons_zero, List.set_cons_succ]
      refine wpAnyH_take (i := 14) (v := ?_) rfl (by kernel_rfl) (by kernel_rfl) (by kernel_rfl) (fun _ _ _ h => h) ?_ (by assumption) ?_
      rotate_left 1
      · first | (apply Or.inl; constructor; rfl; intro W hSw; obtain ⟨s1', s2', s3', s4'⟩ := (hSe W).1 hSw; go_simp; try (with_reducible rfl)) | (apply Or.inr; constructor; rfl; rfl)
      try simp only [Act.put, List.getElem_toArray, List.getElem_cons_succ, List.getElem_cons_zero, List.setIfInBounds_toArray, List.set_cons_zero, List.set_cons_succ]
      refine wpAnyH_ready (rs := [15]) (by kernel_rfl) (by simp) ?_
      refine AllReadyH.cons rfl (fun K hK => ?_) AllReadyH.nil
      go_simp
      refine hK.out _ _ (hSk _ (HK2.out.drew.setCell (p := ⟨p, 1, none⟩) (.inl (by simp)) _)) (fun hHeld => ?_)
      clear hK K
      refine wpAnyH_done (by kernel_rfl) ?_ _
      go_wp2_with fail
      go_roundw
      case rel =>
        have hkk : Keeps [p] wr (w2.drew.setCell ⟨p, 1, none⟩ (.bool false)) := HK2.out.drew.setCell (p := ⟨p, 1, none⟩) (.inl (by simp)) _
        refine ⟨k + 1, by omega, by go_num, ?_, HKP.out.trans hkk (fun g hg => .inl (by simp at hg; subst hg; exact hpF))⟩
        rw [HNX.out, stops_snoc, HNK.out]
        unfold stop1
        rw [HD.out]
        simp only
        have a := HC.out.2.1
        refine HS.out.fix (d' := { d with broken := true, inn := [], window := 0, waits := false }) (vi := .slice none 0 0) (vo := vo) (vt := vt) HP.out rfl rfl hkk (by simp) ?_ ⟨?_, a, ⟨Row.nil _ _ _, by simp [Value.ownBlock]⟩, ?_, ?_⟩
        · exact HS.out.blk.keeps hkk (by simpa using hnp)
        · exact rblk_eq (HB2.out.drew.set_ 1 (.bool false)) (by simp [rc])
        · exact HC.out.2.2.2.1.keeps hkk (fun k hk hx => by simp at hx; subst hx; omega)
        · exact HC.out.2.2.2.2.keeps hkk (fun k hk hx => by simp at hx; subst hx; omega)
      case measure => simp [intOf] <;> omega
    · have hkl : k = l := by omega
      subst hkl
      have f2' := HS.out.blk.frozen 2
      go_wp2_with fail
      go_end0
      have hkn : Keeps [n] wr (wr.setCell ⟨n, 2, none⟩ (.slice none 0 0)) := (Keeps.refl [n] wr).setCell (p := ⟨n, 2, none⟩) (.inl (by simp)) _
      have hst : stopN N = { NK with queue := [] } := by
        unfold stopN
        rw [← HNK.out, ← HL.out, List.take_length]
        rfl
      rw [hst]
      obtain ⟨F', hr, hl⟩ := HS.out.head (G := [n]) (vq' := .slice none 0 0) (N' := { NK with queue := [] }) rfl hkn (fun k hk _ => by simp at hk; subst hk; exact .inl HS.out.tn) (by simpa [rc] using HS.out.blk.set_ 2 (.slice none 0 0)) (by simpa [natsV] using Row.nil _ 3 1) (by simp [Value.ownBlock])
      have hz := HKP.out.size
      refine ⟨rfl, ⟨F', hr, fun k hk => ?_⟩, HKP.out.trans hkn (fun g hg => .inl (by simp at hg; subst hg; exact hnF))⟩
      rcases hl k hk with e | e
      · exact .inl e
      · exact .inr (by omega)
end Go.Proofs.Ytkeffebcmajhmaa
/- The slab: Put whole; Take by contract. -/
namespace Go.Proofs.Ytkeffebcmajhmaa
open Go.RowKit
set_option linter.unusedVariables false
theorem sput_any (s : Nat) (F : List Nat) (lim n : Int) (L : List Slot) (v : Int) (w : World) (h : SRep w s F lim L n) (hn : (n == lim) = false) (hg : ∀ d ∈ L, 0 ≤ d.1 ∧ d.1 ≤ 1099511627776) (hL : L.length ≤ 1099511627776) (hn0 : -1099511627776 ≤ n) (hn1 : n ≤ 1099511627776) :
    Calls Try.prog 20 #[.pointer (some ⟨s, 0, none⟩), .int .i64 v] w (Put w s F lim n v L) := by
  by_cases hk : freeAt L < L.length
  · have hd := List.getElem?_eq_getElem hk
    have hb := hg _ (List.mem_of_getElem? hd)
    exact sput_old s F lim n L _ v w h hn hd hb.1 hb.2 hn0 hn1
  · exact sput_new s F lim n L v w h hn (by have := freeAt_le L; omega) hL hn0 hn1
/-- v is a slice of Handles. -/
def HsIn (w : World) (F : List Nat) (v : Value) (hs : List (Int × Int)) : Prop :=
  ∃ A c, v = .slice A hs.length c ∧ hs.length ≤ c ∧ c ≤ maxLen ∧ (0 < hs.length → ∃ b o, A = some ⟨b, o, none⟩ ∧ b ∉ F ∧ ∀ j h, hs[j]? = some h → w.cell? ⟨b, o + j * 2, none⟩ = some (.int .i64 h.1) ∧ w.cell? ⟨b, o + j * 2 + 1, none⟩ = some (.int .i64 h.2))
theorem HsIn.keeps {w w' : World} {F G : List Nat} {v : Value} {hs : List (Int × Int)} (h : HsIn w F v hs) (hk : Keeps G w w') (hG : ∀ x ∈ G, x ∈ F ∨ w.heap.size ≤ x) : HsIn w' F v hs := by
  obtain ⟨A, c, hv, h1, h2, h3⟩ := h
  refine ⟨A, c, hv, h1, h2, fun hp => ?_⟩
  obtain ⟨b, o, hA, hb, hc⟩ := h3 hp
  refine ⟨b, o, hA, hb, fun j u hu => ?_⟩
  obtain ⟨c1, c2⟩ := hc j u hu
  have hlt := World.block_lt_of_cell? w _ c1
  have hbG : b ∉ G := fun hx => (hG _ hx).elim hb (fun h5 => absurd hlt (Nat.not_lt.2 h5))
  exact ⟨cell_keep hk hbG c1, cell_keep hk hbG c2⟩
theorem HsIn.shape {w : World} {F : List Nat} {v : Value} {hs : List (Int × Int)} (h : HsIn w F v hs) : ∃ A c, v = .slice A hs.length c ∧ hs.length ≤ c ∧ c ≤ 9223372036854775807 := by
  obtain ⟨A, c, hv, h1, h2, h3⟩ := h
  exact ⟨A, c, hv, h1, by unfold maxLen at h2; omega⟩
theorem HsIn.at_ {w : World} {F : List Nat} {A : Option Addr} {n c : Nat} {hs : List (Int × Int)} (h : HsIn w F (.slice A n c) hs) (hn : 0 < hs.length) :
    ∃ b o, A = some ⟨b, o, none⟩ ∧ b ∉ F ∧ ∀ j h, hs[j]? = some h → w.cell? ⟨b, o + j * 2, none⟩ = some (.int .i64 h.1) ∧ w.cell? ⟨b, o + j * 2 + 1, none⟩ = some (.int .i64 h.2) := by
  obtain ⟨A', c', hv, h1, h2, h3⟩ := h
  injection hv with hA
  subst hA
  exact h3 hn
/-- one Handle taken. -/
def take1 (st : List Slot × Nat) (h : Int × Int) : List Slot × Nat := match live st.1 h.1 h.2 with
  | some (k, v) => (st.1.set k (h.2, false, v), st.2 + 1)
  | none => st
def takeAll (L : List Slot) (hs : List (Int × Int)) : List Slot × Nat := hs.foldl take1 (L, 0)
theorem takeAll_snoc (L : List Slot) (hs : List (Int × Int)) (h : Int × Int) : takeAll L (hs ++ [h]) = take1 (takeAll L hs) h := by simp [takeAll]
theorem takeAll_le (L : List Slot) (hs : List (Int × Int)) : (takeAll L hs).2 ≤ hs.length := by
  suffices h : ∀ st : List Slot × Nat, (hs.foldl take1 st).2 ≤ st.2 + hs.length by
    have h1 := h (L, 0)
    simp only [Nat.zero_add] at h1
    exact h1
  induction hs with
  | nil => intro st; simp
  | cons h hs ih =>
    intro st
    rw [List.foldl_cons]
    have h1 := ih (take1 st h)
    have h2 : (take1 st h).2 ≤ st.2 + 1 := by
      unfold take1
      split
      · exact Nat.le_refl _
      · omega
    simp only [List.length_cons]
    omega
set_option maxRecDepth 100000 in
set_option maxHeartbeats 1000000 in
theorem stake_any (s : Nat) (F : List Nat) (lim n : Int) (L : List Slot) (pv : Value) (hs : List (Int × Int)) (w : World) (h : SRep w s F lim L n) (hp : HsIn w F pv hs) (hhs : hs.length ≤ 1099511627776) (hn0 : -1099511627776 ≤ n) (hn1 : n ≤ 1099511627776) :
    Calls Try.prog 21 #[.pointer (some ⟨s, 0, none⟩), pv] w fun e w' => e = .returned (.int .i64 (takeAll L hs).2) ∧ SRep w' s F lim (takeAll L hs).1 (n - (takeAll L hs).2) ∧ Keeps F w w' := by
  have HP := hid hp
  obtain ⟨A, c, rfl, hp1, hp2⟩ := hp.shape
  have H := hid h
  clear hp h
  go_enter Try.func21, Try.ntmps21
  go_wp2_with fail
  go_loopw [5, 7, 8, 11] (fun m _ _ i wr => ∃ (k M : Nat) (L' : List Slot), k ≤ hs.length ∧ i = .int .i64 k ∧ takeAll L (hs.take k) = (L', M) ∧ M ≤ k ∧ m = .int .i64 M ∧ SRep wr s F lim L' (n - M) ∧ Keeps F w wr) (fun _ _ _ i _ => hs.length - (intOf i).toNat)
  case atStart => exact ⟨0, 0, L, Nat.zero_le _, rfl, by simp [takeAll], Nat.le_refl _, rfl, by simpa using H.out, Keeps.refl _ _⟩
  case round =>
    obtain ⟨k, M, L', hk, rfl, hM, hMk, rfl, hr, hkp⟩ := hrel
    by_cases hlt : k < hs.length
    · obtain ⟨hh, hhk⟩ : ∃ hh, hs[k]? = some hh := ⟨hs[k], by simp [hlt]⟩
      obtain ⟨pb, po, rfl, hpb, hpc⟩ := (HP.out.keeps hkp (fun j hj => .inl hj)).at_ (by omega)
      obtain ⟨d0, d1⟩ := hpc k hh hhk
      obtain ⟨hi, hg⟩ := hh
      simp only at d0 d1
      have hstep : takeAll L (hs.take (k + 1)) = take1 (L', M) (hi, hg) := by
        rw [List.take_add_one, hhk, Option.toList, takeAll_snoc, hM]
      have HM := hid hM
      have HS := hid hstep
      have hki : (k : Int) < hs.length := by omega
      have HR := hid hr
      clear hM hstep hpc hhk
      obtain ⟨x, hx⟩ : ∃ x, live L' hi hg = x := ⟨_, rfl⟩
      cases x with
      | none =>
        have HT : Hid (take1 (L', M) (hi, hg) = (L', M)) := hid (by unfold take1; simp only; rw [hx])
        have HX := hid hx
        clear hx hr
        go_wp2_with fail
        refine (at_dead s F lim (n - M) L' hi hg _ (HR.out.keeps ((Keeps.refl [] wr).alloc _) (by simp)) HX.out).mono ?_
        rintro e w1 ⟨rfl, hk1⟩
        have hk2 := ((Keeps.refl [] wr).alloc _).trans hk1 (by simp)
        go_wp2_with fail
        go_roundw
        case rel => exact ⟨k + 1, M, L', by omega, by go_num, by rw [HS.out, HT.out], by omega, rfl, HR.out.keeps hk2 (by simp), hkp.trans hk2 (by simp)⟩
        case measure => simp [intOf] <;> omega
      | some x =>
        obtain ⟨j, v⟩ := x
        obtain ⟨rfl, hd⟩ := live_some hx
        have HT : Hid (take1 (L', M) ((j : Int), hg) = (L'.set j (hg, false, v), M + 1)) := hid (by unfold take1; simp only; rw [hx])
        obtain ⟨A, cap, hv, -, -, hc⟩ := hr.opened
        have hjl : j < L'.length := (List.getElem?_eq_some_iff.1 hd).1
        obtain ⟨b, off, rfl, hcc⟩ := hc (by omega)
        obtain ⟨-, g1, -⟩ := hcc j _ hd
        have HD := hid hd
        have n1 := fun o => alloc_cell hv o
        have n2 := fun o => alloc_cell g1 o
        clear hx hr hcc hd hv g1 hc
        simp only at n2
        go_wp2_with fail
        refine (at_live s F lim (n - M) L' j hg v _ (HR.out.keeps ((Keeps.refl [] wr).alloc _) (by simp)) HD.out b off cap (n1 _)).mono ?_
        rintro e w1 ⟨rfl, hk1⟩
        have n3 := cell_keep hk1 (by simp) (n2 _)
        have n4 := cell_keep hk1 (by simp) (n1 _)
        have hk2 := ((Keeps.refl [] wr).alloc _).trans hk1 (by simp)
        have hr1 := HR.out.keeps hk2 (by simp)
        obtain ⟨hb, hbs, hfz, hst, -, -⟩ := hr1.stores n4 HD.out
        obtain ⟨m2, -, mf, hsF, -⟩ := hr1.cN
        have f1 := hfz (off + j * 3 + 1)
        have f2 := mf 2
        have HST := hid (hst false)
        have HK := hid hk2
        clear n1 n2 n4 hst hfz hk1 hk2 mf hr1
        go_wp2_with fail
        go_roundw
        case rel =>
          refine ⟨k + 1, M + 1, L'.set j (hg, false, v), by omega, by go_num, by rw [HS.out, HT.out], by omega, by go_num, ?_, (hkp.trans (HK.out.mono (G := F) (by simp)) (fun j hj => .inl hj)).setCell (p := ⟨b, off + j * 3 + 1, none⟩) (.inl hb) _ |>.setCell (p := ⟨s, 2, none⟩) (.inl hsF) _⟩
          have h5 := HST.out.setN (n - ((M + 1 : Nat) : Int))
          have e : n - (M : Int) - 1 = n - ((M + 1 : Nat) : Int) := by omega
          rw [e]
          exact h5
        case measure => simp [intOf] <;> omega
    · have hkl : k = hs.length := by omega
      subst hkl
      rw [List.take_length] at hM
      have HM := hid hM
      clear hM
      go_wp2
      go_ret
      rw [HM.out]
      exact ⟨rfl, hr, hkp⟩
end Go.Proofs.Ytkeffebcmajhmaa
/- The slab: All by contract; a nil slab. -/
namespace Go.Proofs.Ytkeffebcmajhmaa
open Go.RowKit
set_option linter.unusedVariables false
def allFrom : Nat → List Slot → List (Int × Int)
  | _, [] => []
  | i, d :: L => (if d.2.1 = true then [((i : Int), d.1)] else []) ++ allFrom (i + 1) L
theorem allFrom_snoc : ∀ (L : List Slot) (i : Nat) (d : Slot), allFrom i (L ++ [d]) = allFrom i L ++ (if d.2.1 = true then [(((i + L.length : Nat) : Int), d.1)] else [])
  | [], i, d => by simp [allFrom]
  | e :: L, i, d => by
    simp only [List.cons_append, allFrom, allFrom_snoc L (i + 1) d, List.append_assoc, List.length_cons]
    have : i + 1 + L.length = i + (L.length + 1) := by omega
    rw [this]
theorem allFrom_le : ∀ (L : List Slot) (i : Nat), (allFrom i L).length ≤ L.length
  | [], i => by simp [allFrom]
  | e :: L, i => by
    have := allFrom_le L (i + 1)
    simp only [allFrom, List.length_append, List.length_cons]
    split <;> simp <;> omega
def handlesV (hs : List (Int × Int)) : List Value := hs.flatMap fun h => [.int .i64 h.1, .int .i64 h.2]
theorem handlesV_length (hs : List (Int × Int)) : (handlesV hs).length = hs.length * 2 := by
  induction hs with
  | nil => rfl
  | cons h hs ih => simp only [handlesV, List.flatMap_cons, List.length_append, List.length_cons, List.length_nil] at ih ⊢; omega
theorem handlesV_append (a b : List (Int × Int)) : handlesV (a ++ b) = handlesV a ++ handlesV b := by simp [handlesV]
theorem handlesV_get (hs : List (Int × Int)) (k : Nat) (h : Int × Int) (hh : hs[k]? = some h) : (handlesV hs)[k * 2]? = some (.int .i64 h.1) ∧ (handlesV hs)[k * 2 + 1]? = some (.int .i64 h.2) := by
  induction hs generalizing k with
  | nil => simp at hh
  | cons e L ih =>
    cases k with
    | zero => simp at hh; subst hh; simp [handlesV]
    | succ k =>
      have h' := ih k (by simpa using hh)
      have e1 : (k + 1) * 2 = k * 2 + 1 + 1 := by omega
      have e2 : k * 2 + 1 + 1 + 1 = (k * 2 + 1) + 1 + 1 := by omega
      rw [e1, e2]
      simp only [handlesV, List.flatMap_cons, List.cons_append, List.nil_append] at h' ⊢
      exact ⟨by simpa using h'.1, by simpa using h'.2⟩
theorem Row.hsIn {w : World} {F : List Nat} {v : Value} {hs : List (Int × Int)} (h : Row w 30 2 v hs.length (handlesV hs)) (hF : ∀ k, v.ownBlock = some k → k ∉ F) : HsIn w F v hs := by
  obtain ⟨A, c, rfl, h1, h2, h3, -⟩ := h.form
  refine ⟨A, c, rfl, h1, h2, fun hp => ?_⟩
  obtain ⟨g, off, cap, hv, -, -, hc, -⟩ := h.open_ hp
  injection hv with hA
  subst hA
  refine ⟨g, off, rfl, hF g rfl, fun j u hu => ?_⟩
  obtain ⟨g0, g1⟩ := handlesV_get hs j u hu
  exact ⟨hc _ _ g0, by rw [Nat.add_assoc]; exact hc _ _ g1⟩
theorem handle_info : (Try.prog.info? 30).map (fun i => (i.zero, i.size, i.bytes)) = some (some (.agg #[.int .i64 0, .int .i64 0]), 2, 16) := by kernel_rfl
def NewHs (w : World) (q : List (Int × Int)) (e : Ending) (w' : World) : Prop := ∃ v, e = .returned v ∧ Row w' 30 2 v q.length (handlesV q) ∧ (∀ k, v.ownBlock = some k → w.heap.size ≤ k)
set_option maxRecDepth 100000 in
set_option maxHeartbeats 1000000 in
theorem sall_any (s : Nat) (F : List Nat) (lim n : Int) (L : List Slot) (w : World) (h : SRep w s F lim L n) (hL : L.length ≤ 1099511627776) :
    Calls Try.prog 31 #[.pointer (some ⟨s, 0, none⟩)] w fun e w' => NewHs w (allFrom 0 L) e w' ∧ Keeps [] w w' := by
  obtain ⟨i1, hi1, hy0, hy1, hy2⟩ := info_parts handle_info
  have H := hid h
  obtain ⟨A, cap, hv, h1, h2, hc⟩ := h.opened
  have HC := hid hc
  clear h hc
  go_enter Try.func31, Try.ntmps31
  go_wp2_with fail
  go_loopw [3, 4, 5, 13] (fun l _ _ i wr => ∃ (k : Nat) (q : List (Int × Int)), k ≤ L.length ∧ i = .int .i64 k ∧ allFrom 0 (L.take k) = q ∧ q.length ≤ k ∧ Row wr 30 2 l q.length (handlesV q) ∧ (∀ j, l.ownBlock = some j → w.heap.size ≤ j) ∧ Keeps [] w wr) (fun _ _ _ i _ => L.length - (intOf i).toNat)
  case atStart => exact ⟨0, [], Nat.zero_le _, rfl, by simp [allFrom], Nat.le_refl _, Row.nil _ _ _, by simp [Value.ownBlock], Keeps.refl _ _⟩
  case round =>
    obtain ⟨k, q, hk, rfl, hq, hqk, hrow, hob, hkp⟩ := hrel
    have HROW := hid hrow
    have HOB := hid hob
    have HQ := hid hq
    obtain ⟨LA, lc, rfl, -⟩ := hrow.form
    clear hrow hob hq
    by_cases hlt : k < L.length
    · obtain ⟨d, hd⟩ : ∃ d, L[k]? = some d := ⟨L[k], List.getElem?_eq_getElem hlt⟩
      obtain ⟨b, off, rfl, hcc⟩ := HC.out (by omega)
      obtain ⟨g0, g1, g2⟩ := hcc k d hd
      have d0 := cell_keep hkp (by simp) g0
      have d1 := cell_keep hkp (by simp) g1
      have d2 := cell_keep hkp (by simp) g2
      have hstep : allFrom 0 (L.take (k + 1)) = q ++ (if d.2.1 = true then [(((k : Nat) : Int), d.1)] else []) := by
        rw [List.take_add_one, hd, Option.toList, allFrom_snoc, HQ.out, List.length_take, Nat.min_eq_left (by omega), Nat.zero_add]
      have HS := hid hstep
      have hki : (k : Int) < L.length := by omega
      have hq40 : q.length ≤ 1099511627776 := by omega
      obtain ⟨dg, du, dv⟩ := d
      simp only at d0 d1 d2
      clear hstep hcc g0 g1 g2 hd
      cases du with
      | false =>
        go_wp2_with fail
        go_roundw
        case rel => exact ⟨k + 1, q, by omega, by go_num, by rw [HS.out]; simp, by omega, HROW.out.alloc _, HOB.out, hkp.alloc _⟩
        case measure => simp [intOf] <;> omega
      | true =>
        go_wp2_with (at_builtin; refine wpList_append_row _ rfl (.tmp 20) (.tmp 25) _ rfl 30 i1 _ 2 16 Try.underlying28 hi1 hy0 hy1 hy2 rfl (by omega) (.slice LA q.length lc) q.length _ rfl ((HROW.out.alloc _).alloc _) (some ⟨wr.heap.size + 1, 0, none⟩) 1 1 [.int .i64 k, .int .i64 dg] rfl (reads_blk2 (Blk.newAt (by simp))) (by simp [Value.oneCell']) (by simp only [maxLen]; omega) (by omega) ?_; intro v2 w2 hv2 hk2 ho2; have HV2 := hid hv2; have HK2 := hid hk2; have HO2 := hid ho2; clear hv2 hk2 ho2)
        go_roundw
        case rel =>
          have hv := HV2.out
          rw [show handlesV q ++ [Value.int .i64 k, .int .i64 dg] = handlesV (q ++ [((k : Int), dg)]) by simp [handlesV], show q.length + 1 = (q ++ [((k : Int), dg)]).length by simp] at hv
          refine ⟨k + 1, q ++ [((k : Int), dg)], by omega, by go_num, by rw [HS.out]; simp, by simp; omega, hv, fun j hj => ?_, ((hkp.alloc _).alloc _).trans HK2.out (fun j hj => .inr (HOB.out j (by simpa using hj)))⟩
          rcases HO2.out j hj with h | h
          · exact HOB.out j h
          · have h5 := hkp.size
            simp at h
            omega
        case measure => simp [intOf] <;> omega
    · have hkl : k = L.length := by omega
      subst hkl
      have hq2 := HQ.out
      rw [List.take_length] at hq2
      subst hq2
      go_wp2
      go_ret
      exact ⟨⟨_, rfl, HROW.out, HOB.out⟩, hkp⟩
theorem sget_nil (i g : Int) (w : World) : Calls Try.prog 23 #[.pointer none, .agg #[.int .i64 i, .int .i64 g]] w fun e w' => e = .returned (.tuple #[.int .i64 0, .int .i64 10]) ∧ Keeps [] w w' := by
  go_enter Try.func23, Try.ntmps23
  go_wp2_with fail
  refine (at_nil i g _).mono ?_
  rintro e w1 ⟨rfl, hk⟩
  go_wp2
  go_ret2
  exact ⟨rfl, ((Keeps.refl [] w).alloc _).trans hk (by simp)⟩
theorem sset_nil (i g v : Int) (w : World) : Calls Try.prog 24 #[.pointer none, .agg #[.int .i64 i, .int .i64 g], .int .i64 v] w fun e w' => e = .returned (.int .i64 1) ∧ Keeps [] w w' := by
  go_enter Try.func24, Try.ntmps24
  go_wp2
  go_ret
  exact ⟨rfl, (Keeps.refl [] w).alloc _⟩
theorem slen_nil (w : World) : Calls Try.prog 22 #[.pointer none] w fun e w' => e = .returned (.int .i64 0) ∧ Keeps [] w w' := by
  go_enter Try.func22, Try.ntmps22
  go_wp2
  go_ret
  exact ⟨rfl, Keeps.refl _ _⟩
theorem sall_nil (w : World) : Calls Try.prog 31 #[.pointer none] w fun e w' => e = .returned (.slice none 0 0) ∧ Keeps [] w w' := by
  go_enter Try.func31, Try.ntmps31
  go_wp2
  go_ret
  exact ⟨rfl, Keeps.refl _ _⟩
/-- Take of one Handle by a nil slab. -/
theorem stake_nil (pv : Value) (h : Int × Int) (w : World) (hp : HsIn w [] pv [h]) : Calls Try.prog 21 #[.pointer none, pv] w fun e w' => e = .returned (.int .i64 0) ∧ Keeps [] w w' := by
  obtain ⟨A, c, rfl, hp1, hp2⟩ := hp.shape
  obtain ⟨pb, po, rfl, -, hpc⟩ := hp.at_ (by simp)
  obtain ⟨d0, d1⟩ := hpc 0 h rfl
  simp only [Nat.zero_mul, Nat.add_zero] at d0 d1
  have HP := hid hp
  obtain ⟨i, g⟩ := h
  clear hp hpc
  go_enter Try.func21, Try.ntmps21
  go_wp2_with fail
  go_loopw [5, 7, 8, 11] (fun m _ _ i wr => ∃ k : Nat, k ≤ 1 ∧ i = .int .i64 k ∧ m = .int .i64 0 ∧ Keeps [] w wr) (fun _ _ _ i _ => 1 - (intOf i).toNat)
  case atStart => exact ⟨0, Nat.zero_le _, rfl, rfl, Keeps.refl _ _⟩
  case round =>
    obtain ⟨k, hk, rfl, rfl, hkp⟩ := hrel
    by_cases hlt : k < 1
    · obtain rfl : k = 0 := by omega
      have e0 := cell_keep hkp (by simp) d0
      have e1 := cell_keep hkp (by simp) d1
      go_wp2_with fail
      refine (at_nil _ _ _).mono ?_
      rintro e w1 ⟨rfl, hk1⟩
      go_wp2_with fail
      go_roundw
      case rel => exact ⟨1, by omega, by go_num, rfl, (hkp.alloc _).trans hk1 (by simp)⟩
      case measure => simp [intOf] <;> omega
    · obtain rfl : k = 1 := by omega
      go_wp2
      go_ret
      exact ⟨rfl, hkp⟩
end Go.Proofs.Ytkeffebcmajhmaa
