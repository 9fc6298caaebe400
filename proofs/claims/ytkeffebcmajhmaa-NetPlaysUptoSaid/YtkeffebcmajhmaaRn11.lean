/- The reference's net: Stop by contract. -/
import Derived.Test.YtkeffebcmajhmaaRn10
namespace Go.Proofs.Ytkeffebcmajhmaa
open Go.RowKit
set_option linter.unusedVariables false
set_option linter.unusedSimpArgs false
set_option maxRecDepth 100000 in
set_option maxHeartbeats 8000000 in
theorem rstop_any (n : Nat) (F : List Nat) (N : NS) (B : Int) (w : World) (h : NRep rc w n F N) (hN : OkN N B) :
    Calls Try.prog 92 #[.pointer (some ⟨n, 0, none⟩)] w fun e w' => e = .returned (.tuple #[]) ∧ NDone rc w n F (stopN N) w' := by
  obtain ⟨own, ps, vc, vq, h⟩ := h
  have H := hid h
  have HOK := hid hN
  have hnF : n ∈ F := h.ftag n (by rw [h.tn]; omega)
  obtain ⟨A, cap, hvq, hq1, hqm, -⟩ := h.rq.form
  have c4 := h.blk.cell 4
  have f4 := h.blk.frozen 4
  simp [rc] at c4
  have HS0 : Hid (NAt rc (w.setCell ⟨n, 4, none⟩ (.bool true)) n F own ps vc vq { N with stopped := true }) := by
    refine hid (h.own_ rfl rfl ((Keeps.refl [n] w).setCell (p := ⟨n, 4, none⟩) (.inl (by simp)) _) ?_)
    simpa [rc] using h.blk.set_ 4 (.bool true)
  obtain ⟨l, hl⟩ : ∃ l, N.queue.length = l := ⟨_, rfl⟩
  have hl64 : l ≤ 64 := by
    have := hN.ql
    have := hN.b1
    omega
  rw [hl] at hvq
  have HVQ := hid hvq
  have HL := hid hl
  clear h hN hvq hl
  go_enter Try.func92, Try.ntmps92
  go_wp2_with fail
  go_loopw [2] (fun jv wr => ∃ k : Nat, k ≤ l ∧ jv = .int .i64 k ∧ NAt rc wr n F own ps vc vq (stops { N with stopped := true } (N.queue.take k)) ∧ Keeps F w wr) (fun jv _ => l - (intOf jv).toNat)
  case atStart => exact ⟨0, Nat.zero_le _, rfl, by simpa [stops] using HS0.out, (Keeps.refl F w).setCell (p := ⟨n, 4, none⟩) (.inl hnF) _⟩
  case round =>
    clear HS0
    obtain ⟨k, hk, rfl, hS, hkp⟩ := hrel
    have HS := hid hS
    have HKP := hid hkp
    clear hS hkp
    obtain ⟨NK, hNK⟩ : ∃ M, stops { N with stopped := true } (N.queue.take k) = M := ⟨_, rfl⟩
    have hqq : NK.queue = N.queue := by rw [← hNK, stops_queue]
    have hll : NK.cs.length = N.cs.length := by rw [← hNK, stops_len]
    rw [hNK] at HS
    have HNK := hid hNK
    have HQQ := hid hqq
    have HLL := hid hll
    clear hNK hqq hll
    have n1 := HS.out.blk.cell 1
    have n2 := HS.out.blk.cell 2
    simp [rc] at n1 n2
    rw [HVQ.out] at n2
    by_cases hlt : k < l
    · obtain ⟨q, hq⟩ : ∃ q, N.queue[k]? = some q := ⟨N.queue[k]'(by rw [HL.out]; exact hlt), List.getElem?_eq_getElem _⟩
      obtain ⟨d0, hd0, -⟩ := HOK.out.qw q (List.mem_of_getElem? hq)
      have hqlt : q < NK.cs.length := by rw [HLL.out]; exact (List.getElem?_eq_some_iff.1 hd0).1
      obtain ⟨d, hd⟩ : ∃ d, NK.cs[q]? = some d := ⟨NK.cs[q], List.getElem?_eq_getElem hqlt⟩
      obtain ⟨g, qo, qc, hgq, -, -, hqcell, -, -⟩ := HS.out.rq.open_ (by rw [HQQ.out, HL.out]; omega)
      have hA : A = some ⟨g, qo, none⟩ := by
        have := HVQ.out
        rw [this] at hgq
        injection hgq
      subst hA
      have q0 := hqcell k (.int .i64 q) (by rw [HQQ.out]; simp [natsV, hq])
      obtain ⟨p, b, off, ccap, hp, hvc, -, hle, hccm, hcb, hbn, vi, vo, vt, hc⟩ := HS.out.conn hd
      rw [hvc] at n1
      have hki : (k : Int) < l := by omega
      have hqi : (q : Int) < NK.cs.length := by omega
      have hpT : Blk wr p rc.T _ := hc.1
      have hbp : b ≠ p := fun e => by
        have a1 := HS.out.oc b (by rw [hvc]; simp [Value.ownBlock])
        have a2 := hc.2.1
        rw [← e, a1] at a2
        omega
      have hnp : n ≠ p := fun e => by
        have a1 := HS.out.tn
        have a2 := hc.2.1
        rw [e, a2] at a1
        omega
      have hgp : g ≠ p := fun e => by
        have a1 := HS.out.oq g (by rw [HVQ.out]; simp [Value.ownBlock])
        have a2 := hc.2.1
        rw [← e, a1] at a2
        omega
      have HC := hid hc
      have HP := hid hp
      have HD := hid hd
      have HVC := hid hvc
      have HNX : Hid (N.queue.take (k + 1) = N.queue.take k ++ [q]) := by
        rw [List.take_add_one, hq]
        exact hid rfl
      have hpF : p ∈ F := HS.out.ftag p (by rw [hc.2.1]; omega)
      clear hqcell hgq hq hd0 hd hp hc hqlt hvc hpT
      go_wp2_with fail
      obtain ⟨S, hSe⟩ : ∃ S : World → Prop, ∀ w', S w' ↔ (w'.cell? ⟨n, 1, none⟩ = some (.slice (some ⟨b, off, none⟩) NK.cs.length ccap) ∧ w'.cell? ⟨n, 2, none⟩ = some (.slice (some ⟨g, qo, none⟩) l cap) ∧ w'.cell? ⟨g, qo + k, none⟩ = some (.int .i64 q) ∧ w'.cell? ⟨b, off + q, none⟩ = some (.pointer (some ⟨p, 0, none⟩))) := ⟨_, fun _ => Iff.rfl⟩
      have hSw1 : S wr.drew := (hSe _).2 ⟨n1, n2, q0, hcb⟩
      have hSk : ∀ W, Keeps [p] wr W → S W := fun W hW => (hSe _).2 ⟨cell_keep hW (by simpa using hnp) n1, cell_keep hW (by simpa using hnp) n2, cell_keep hW (by simpa using hgp) q0, cell_keep hW (by simpa using hbp) hcb⟩
      refine wp_region_held_drew (S := S) (by kernel_rfl) hSw1 (fun hHeld => ?_)
      refine wpAnyH_take (i := 0) (v := ?_) rfl (by kernel_rfl) (by kernel_rfl) (by kernel_rfl) (fun _ _ _ h => h) ?_ (by assumption) ?_
      rotate_left 1
      · first | (apply Or.inl; constructor; rfl; intro W hSw; obtain ⟨s1', s2', s3', s4'⟩ := (hSe W).1 hSw; go_simp; try (with_reducible rfl)) | (apply Or.inr; constructor; rfl; rfl)
      try simp only [Act.put, List.getElem_toArray, List.getElem_cons_succ, List.getElem_cons_zero, List.setIfInBounds_toArray, List.set_cons_zero, List.set_cons_succ]
      refine wpAnyH_take (i := 1) (v := ?_) rfl (by kernel_rfl) (by kernel_rfl) (by kernel_rfl) (fun _ _ _ h => h) ?_ (by assumption) ?_
      rotate_left 1
      · first | (apply Or.inl; constructor; rfl; intro W hSw; obtain ⟨s1', s2', s3', s4'⟩ := (hSe W).1 hSw; go_simp; try (with_reducible rfl)) | (apply Or.inr; constructor; rfl; rfl)
      try simp only [Act.put, List.getElem_toArray, List.getElem_cons_succ, List.getElem_cons_zero, List.setIfInBounds_toArray, List.set_cons_zero, List.set_cons_succ]
      refine wpAnyH_take (i := 2) (v := ?_) rfl (by kernel_rfl) (by kernel_rfl) (by kernel_rfl) (fun _ _ _ h => h) ?_ (by assumption) ?_
      rotate_left 1
      · first | (apply Or.inl; constructor; rfl; intro W hSw; obtain ⟨s1', s2', s3', s4'⟩ := (hSe W).1 hSw; go_simp; try (with_reducible rfl)) | (apply Or.inr; constructor; rfl; rfl)
      try simp only [Act.put, List.getElem_toArray, List.getElem_cons_succ, List.getElem_cons_zero, List.setIfInBounds_toArray, List.set_cons_zero, List.set_cons_succ]
      refine wpAnyH_take (i := 3) (v := ?_) rfl (by kernel_rfl) (by kernel_rfl) (by kernel_rfl) (fun _ _ _ h => h) ?_ (by assumption) ?_
      rotate_left 1
      · first | (apply Or.inl; constructor; rfl; intro W hSw; obtain ⟨s1', s2', s3', s4'⟩ := (hSe W).1 hSw; go_simp; try (with_reducible rfl)) | (apply Or.inr; constructor; rfl; rfl)
      try simp only [Act.put, List.getElem_toArray, List.getElem_cons_succ, List.getElem_cons_zero, List.setIfInBounds_toArray, List.set_cons_zero, List.set_cons_succ]
      refine wpAnyH_take (i := 4) (v := ?_) rfl (by kernel_rfl) (by kernel_rfl) (by kernel_rfl) (fun _ _ _ h => h) ?_ (by assumption) ?_
      rotate_left 1
      · first | (apply Or.inl; constructor; rfl; intro W hSw; obtain ⟨s1', s2', s3', s4'⟩ := (hSe W).1 hSw; go_simp; try (with_reducible rfl)) | (apply Or.inr; constructor; rfl; rfl)
      try simp only [Act.put, List.getElem_toArray, List.getElem_cons_succ, List.getElem_cons_zero, List.setIfInBounds_toArray, List.set_cons_zero, List.set_cons_succ]
      refine wpAnyH_take (i := 5) (v := ?_) rfl (by kernel_rfl) (by kernel_rfl) (by kernel_rfl) (fun _ _ _ h => h) ?_ (by assumption) ?_
      rotate_left 1
      · first | (apply Or.inl; constructor; rfl; intro W hSw; obtain ⟨s1', s2', s3', s4'⟩ := (hSe W).1 hSw; go_simp; try (with_reducible rfl)) | (apply Or.inr; constructor; rfl; rfl)
      try simp only [Act.put, List.getElem_toArray, List.getElem_cons_succ, List.getElem_cons_zero, List.setIfInBounds_toArray, List.set_cons_zero, List.set_cons_succ]
      refine wpAnyH_take (i := 6) (v := ?_) rfl (by kernel_rfl) (by kernel_rfl) (by kernel_rfl) (fun _ _ _ h => h) ?_ (by assumption) ?_
      rotate_left 1
      · first | (apply Or.inl; constructor; rfl; intro W hSw; obtain ⟨s1', s2', s3', s4'⟩ := (hSe W).1 hSw; go_simp; try (with_reducible rfl)) | (apply Or.inr; constructor; rfl; rfl)
      try simp only [Act.put, List.getElem_toArray, List.getElem_cons_succ, List.getElem_cons_zero, List.setIfInBounds_toArray, List.set_cons_zero, List.set_cons_succ]
      refine wpAnyH_take (i := 7) (v := ?_) rfl (by kernel_rfl) (by kernel_rfl) (by kernel_rfl) (fun _ _ _ h => h) ?_ (by assumption) ?_
      rotate_left 1
      · first | (apply Or.inl; constructor; rfl; intro W hSw; obtain ⟨s1', s2', s3', s4'⟩ := (hSe W).1 hSw; go_simp; try (with_reducible rfl)) | (apply Or.inr; constructor; rfl; rfl)
      try simp only [Act.put, List.getElem_toArray, List.getElem_cons_succ, List.getElem_cons_zero, List.setIfInBounds_toArray, List.set_cons_zero, List.set_cons_succ]
      refine wpAnyH_take (i := 8) (v := ?_) rfl (by kernel_rfl) (by kernel_rfl) (by kernel_rfl) (fun _ _ _ h => h) ?_ (by assumption) ?_
      rotate_left 1
      · first | (apply Or.inl; constructor; rfl; intro W hSw; obtain ⟨s1', s2', s3', s4'⟩ := (hSe W).1 hSw; go_simp; try (with_reducible rfl)) | (apply Or.inr; constructor; rfl; rfl)
      try simp only [Act.put, List.getElem_toArray, List.getElem_cons_succ, List.getElem_cons_zero, List.setIfInBounds_toArray, List.set_cons_zero, List.set_cons_succ]
      refine wpAnyH_take (i := 9) (v := ?_) rfl (by kernel_rfl) (by kernel_rfl) (by kernel_rfl) (fun _ _ _ h => h) ?_ (by assumption) ?_
      rotate_left 1
      · first | (apply Or.inl; constructor; rfl; intro W hSw; obtain ⟨s1', s2', s3', s4'⟩ := (hSe W).1 hSw; go_simp; try (with_reducible rfl)) | (apply Or.inr; constructor; rfl; rfl)
      try simp only [Act.put, List.getElem_toArray, List.getElem_cons_succ, List.getElem_cons_zero, List.setIfInBounds_toArray, List.set_cons_zero, List.set_cons_succ]
      refine wpAnyH_take (i := 10) (v := ?_) rfl (by kernel_rfl) (by kernel_rfl) (by kernel_rfl) (fun _ _ _ h => h) ?_ (by assumption) ?_
      rotate_left 1
      · first | (apply Or.inl; constructor; rfl; intro W hSw; obtain ⟨s1', s2', s3', s4'⟩ := (hSe W).1 hSw; go_simp; try (with_reducible rfl)) | (apply Or.inr; constructor; rfl; rfl)
      try simp only [Act.put, List.getElem_toArray, List.getElem_cons_succ, List.getElem_cons_zero, List.setIfInBounds_toArray, List.set_cons_zero, List.set_cons_succ]
      refine wpAnyH_take (i := 11) (v := ?_) rfl (by kernel_rfl) (by kernel_rfl) (by kernel_rfl) (fun _ _ _ h => h) ?_ (by assumption) ?_
      rotate_left 1
      · first | (apply Or.inl; constructor; rfl; intro W hSw; obtain ⟨s1', s2', s3', s4'⟩ := (hSe W).1 hSw; go_simp; try (with_reducible rfl)) | (apply Or.inr; constructor; rfl; rfl)
      try simp only [Act.put, List.getElem_toArray, List.getElem_cons_succ, List.getElem_cons_zero, List.setIfInBounds_toArray, List.set_cons_zero, List.set_cons_succ]
      refine wpAnyH_take (i := 12) (v := ?_) rfl (by kernel_rfl) (by kernel_rfl) (by kernel_rfl) (fun _ _ _ h => h) ?_ (by assumption) ?_
      rotate_left 1
      · first | (apply Or.inl; constructor; rfl; intro W hSw; obtain ⟨s1', s2', s3', s4'⟩ := (hSe W).1 hSw; go_simp; try (with_reducible rfl)) | (apply Or.inr; constructor; rfl; rfl)
      try simp only [Act.put, List.getElem_toArray, List.getElem_cons_succ, List.getElem_cons_zero, List.setIfInBounds_toArray, List.set_cons_zero, List.set_cons_succ]
      refine wpAnyH_ready (rs := [13]) (by kernel_rfl) (by simp) ?_
      refine AllReadyH.cons rfl (fun K hK => ?_) AllReadyH.nil
      go_simp
      refine (rbreaks_any p _ _ HC.out.1.drew (by simp [rc])).mono ?_
      rintro e w2 ⟨rfl, hw2⟩
      have hk2 : Keeps [p] wr w2 := by rw [hw2]; exact ((((Keeps.refl [p] wr).drew.setCell (p := ⟨p, 4, none⟩) (.inl (by simp)) _).setCell (p := ⟨p, 7, none⟩) (.inl (by simp)) _).setCell (p := ⟨p, 10, none⟩) (.inl (by simp)) _)
      have hb2 := ((HC.out.1.drew.set_ 4 (.bool true)).set_ 7 (.slice none 0 0)).set_ 10 (.int .i64 0)
      rw [← hw2] at hb2
      refine hK.out _ _ (hSk _ hk2) (fun hHeld => ?_)
      clear hK K hw2
      refine wpAnyH_done (by kernel_rfl) ?_ _
      have p1 := hb2.cell 1
      have pf1 := hb2.frozen 1
      simp [rc] at p1
      have HK2 := hid hk2
      have HB2 := hid hb2
      clear hk2 hb2
      go_wp2_with fail
      have hS2 : S w2.drew := hSk _ HK2.out.drew
      refine wp_region_held_drew (S := S) (by kernel_rfl) hS2 (fun hHeld => ?_)
      refine wpAnyH_take (i := 0) (v := ?_) rfl (by kernel_rfl) (by kernel_rfl) (by kernel_rfl) (fun _ _ _ h => h) ?_ (by assumption) ?_
      rotate_left 1
      · first | (apply Or.inl; constructor; rfl; intro W hSw; obtain ⟨s1', s2', s3', s4'⟩ := (hSe W).1 hSw; go_simp; try (with_reducible rfl)) | (apply Or.inr; constructor; rfl; rfl)
      try simp only [Act.put, List.getElem_toArray, List.getElem_cons_succ, List.getElem_cons_zero, List.setIfInBounds_toArray, List.set_cons_zero, List.set_cons_succ]
      refine wpAnyH_take (i := 1) (v := ?_) rfl (by kernel_rfl) (by kernel_rfl) (by kernel_rfl) (fun _ _ _ h => h) ?_ (by assumption) ?_
      rotate_left 1
      · first | (apply Or.inl; constructor; rfl; intro W hSw; obtain ⟨s1', s2', s3', s4'⟩ := (hSe W).1 hSw; go_simp; try (with_reducible rfl)) | (apply Or.inr; constructor; rfl; rfl)
      try simp only [Act.put, List.getElem_toArray, List.getElem_cons_succ, List.getElem_cons_zero, List.setIfInBounds_toArray, List.set_cons_zero, List.set_cons_succ]
      refine wpAnyH_take (i := 2) (v := ?_) rfl (by kernel_rfl) (by kernel_rfl) (by kernel_rfl) (fun _ _ _ h => h) ?_ (by assumption) ?_
      rotate_left 1
      · first | (apply Or.inl; constructor; rfl; intro W hSw; obtain ⟨s1', s2', s3', s4'⟩ := (hSe W).1 hSw; go_simp; try (with_reducible rfl)) | (apply Or.inr; constructor; rfl; rfl)
      try simp only [Act.put, List.getElem_toArray, List.getElem_cons_succ, List.getElem_cons_zero, List.setIfInBounds_toArray, List.set_cons_zero, List.set_cons_succ]
      refine wpAnyH_take (i := 3) (v := ?_) rfl (by kernel_rfl) (by kernel_rfl) (by kernel_rfl) (fun _ _ _ h => h) ?_ (by assumption) ?_
      rotate_left 1
      · first | (apply Or.inl; constructor; rfl; intro W hSw; obtain ⟨s1', s2', s3', s4'⟩ := (hSe W).1 hSw; go_simp; try (with_reducible rfl)) | (apply Or.inr; constructor; rfl; rfl)
      try simp only [Act.put, List.getElem_toArray, List.getElem_cons_succ, List.getElem_cons_zero, List.setIfInBounds_toArray, List.set_cons_zero, List.set_cons_succ]
      refine wpAnyH_take (i := 4) (v := ?_) rfl (by kernel_rfl) (by kernel_rfl) (by kernel_rfl) (fun _ _ _ h => h) ?_ (by assumption) ?_
      rotate_left 1
      · first | (apply Or.inl; constructor; rfl; intro W hSw; obtain ⟨s1', s2', s3', s4'⟩ := (hSe W).1 hSw; go_simp; try (with_reducible rfl)) | (apply Or.inr; constructor; rfl; rfl)
      try simp only [Act.put, List.getElem_toArray, List.getElem_cons_succ, List.getElem_cons_zero, List.setIfInBounds_toArray, List.set_cons_zero, List.set_cons_succ]
      refine wpAnyH_take (i := 5) (v := ?_) rfl (by kernel_rfl) (by kernel_rfl) (by kernel_rfl) (fun _ _ _ h => h) ?_ (by assumption) ?_
      rotate_left 1
      · first | (apply Or.inl; constructor; rfl; intro W hSw; obtain ⟨s1', s2', s3', s4'⟩ := (hSe W).1 hSw; go_simp; try (with_reducible rfl)) | (apply Or.inr; constructor; rfl; rfl)
      try simp only [Act.put, List.getElem_toArray, List.getElem_cons_succ, List.getElem_cons_zero, List.setIfInBounds_toArray, List.set_cons_zero, List.set_cons_succ]
      refine wpAnyH_take (i := 6) (v := ?_) rfl (by kernel_rfl) (by kernel_rfl) (by kernel_rfl) (fun _ _ _ h => h) ?_ (by assumption) ?_
      rotate_left 1
      · first | (apply Or.inl; constructor; rfl; intro W hSw; obtain ⟨s1', s2', s3', s4'⟩ := (hSe W).1 hSw; go_simp; try (with_reducible rfl)) | (apply Or.inr; constructor; rfl; rfl)
      try simp only [Act.put, List.getElem_toArray, List.getElem_cons_succ, List.getElem_cons_zero, List.setIfInBounds_toArray, List.set_cons_zero, List.set_cons_succ]
      refine wpAnyH_take (i := 7) (v := ?_) rfl (by kernel_rfl) (by kernel_rfl) (by kernel_rfl) (fun _ _ _ h => h) ?_ (by assumption) ?_
      rotate_left 1
      · first | (apply Or.inl; constructor; rfl; intro W hSw; obtain ⟨s1', s2', s3', s4'⟩ := (hSe W).1 hSw; go_simp; try (with_reducible rfl)) | (apply Or.inr; constructor; rfl; rfl)
      try simp only [Act.put, List.getElem_toArray, List.getElem_cons_succ, List.getElem_cons_zero, List.setIfInBounds_toArray, List.set_cons_zero, List.set_cons_succ]
      refine wpAnyH_take (i := 8) (v := ?_) rfl (by kernel_rfl) (by kernel_rfl) (by kernel_rfl) (fun _ _ _ h => h) ?_ (by assumption) ?_
      rotate_left 1
      · first | (apply Or.inl; constructor; rfl; intro W hSw; obtain ⟨s1', s2', s3', s4'⟩ := (hSe W).1 hSw; go_simp; try (with_reducible rfl)) | (apply Or.inr; constructor; rfl; rfl)
      try simp only [Act.put, List.getElem_toArray, List.getElem_cons_succ, List.getElem_cons_zero, List.setIfInBounds_toArray, List.set_cons_zero, List.set_cons_succ]
      refine wpAnyH_take (i := 9) (v := ?_) rfl (by kernel_rfl) (by kernel_rfl) (by kernel_rfl) (fun _ _ _ h => h) ?_ (by assumption) ?_
      rotate_left 1
      · first | (apply Or.inl; constructor; rfl; intro W hSw; obtain ⟨s1', s2', s3', s4'⟩ := (hSe W).1 hSw; go_simp; try (with_reducible rfl)) | (apply Or.inr; constructor; rfl; rfl)
      try simp only [Act.put, List.getElem_toArray, List.getElem_cons_succ, List.getElem_cons_zero, List.setIfInBounds_toArray, List.set_cons_zero, List.set_cons_succ]
      refine wpAnyH_take (i := 10) (v := ?_) rfl (by kernel_rfl) (by kernel_rfl) (by kernel_rfl) (fun _ _ _ h => h) ?_ (by assumption) ?_
      rotate_left 1
      · first | (apply Or.inl; constructor; rfl; intro W hSw; obtain ⟨s1', s2', s3', s4'⟩ := (hSe W).1 hSw; go_simp; try (with_reducible rfl)) | (apply Or.inr; constructor; rfl; rfl)
      try simp only [Act.put, List.getElem_toArray, List.getElem_cons_succ, List.getElem_cons_zero, List.setIfInBounds_toArray, List.set_cons_zero, List.set_cons_succ]
      refine wpAnyH_take (i := 11) (v := ?_) rfl (by kernel_rfl) (by kernel_rfl) (by kernel_rfl) (fun _ _ _ h => h) ?_ (by assumption) ?_
      rotate_left 1
      · first | (apply Or.inl; constructor; rfl; intro W hSw; obtain ⟨s1', s2', s3', s4'⟩ := (hSe W).1 hSw; go_simp; try (with_reducible rfl)) | (apply Or.inr; constructor; rfl; rfl)
      try simp only [Act.put, List.getElem_toArray, List.getElem_cons_succ, List.getElem_cons_zero, List.setIfInBounds_toArray, List.set_cons_zero, List.set_cons_succ]
      refine wpAnyH_take (i := 12) (v := ?_) rfl (by kernel_rfl) (by kernel_rfl) (by kernel_rfl) (fun _ _ _ h => h) ?_ (by assumption) ?_
      rotate_left 1
      · first | (apply Or.inl; constructor; rfl; intro W hSw; obtain ⟨s1', s2', s3', s4'⟩ := (hSe W).1 hSw; go_simp; try (with_reducible rfl)) | (apply Or.inr; constructor; rfl; rfl)
      try simp only [Act.put, List.getElem_toArray, List.getElem_cons_succ, List.getElem_cons_zero, List.setIfInBounds_toArray, List.set_cons_zero, List.set_cons_succ]
      refine wpAnyH_take (i := 13) (v := ?_) rfl (by kernel_rfl) (by kernel_rfl) (by kernel_rfl) (fun _ _ _ h => h) ?_ (by assumption) ?_
      rotate_left 1
      · first | (apply Or.inl; constructor; rfl; intro W hSw; obtain ⟨s1', s2', s3', s4'⟩ := (hSe W).1 hSw; go_simp; try (with_reducible rfl)) | (apply Or.inr; constructor; rfl; rfl)
      try simp only [Act.put, List.getElem_toArray, List.getElem_cons_succ, List.getElem_cons_zero, List.setIfInBounds_toArray, List.set_cons_zero, List.set_cons_succ]
      refine wpAnyH_take (i := 14) (v := ?_) rfl (by kernel_rfl) (by kernel_rfl) (by kernel_rfl) (fun _ _ _ h => h) ?_ (by assumption) ?_
      rotate_left 1
      · first | (apply Or.inl; constructor; rfl; intro W hSw; obtain ⟨s1', s2', s3', s4'⟩ := (hSe W).1 hSw; go_simp; try (with_reducible rfl)) | (apply Or.inr; constructor; rfl; rfl)
      try simp only [Act.put, List.getElem_toArray, List.getElem_cons_succ, List.getElem_cons_zero, List.setIfInBounds_toArray, List.set_cons_zero, List.set_cons_succ]
      refine wpAnyH_ready (rs := [15]) (by kernel_rfl) (by simp) ?_
      refine AllReadyH.cons rfl (fun K hK => ?_) AllReadyH.nil
      go_simp
      refine hK.out _ _ (hSk _ (HK2.out.drew.setCell (p := ⟨p, 1, none⟩) (.inl (by simp)) _)) (fun hHeld => ?_)
      clear hK K
      refine wpAnyH_done (by kernel_rfl) ?_ _
      go_wp2_with fail
      go_roundw
      case rel =>
        have hkk : Keeps [p] wr (w2.drew.setCell ⟨p, 1, none⟩ (.bool false)) := HK2.out.drew.setCell (p := ⟨p, 1, none⟩) (.inl (by simp)) _
        refine ⟨k + 1, by omega, by go_num, ?_, HKP.out.trans hkk (fun g hg => .inl (by simp at hg; subst hg; exact hpF))⟩
        rw [HNX.out, stops_snoc, HNK.out]
        unfold stop1
        rw [HD.out]
        simp only
        have a := HC.out.2.1
        refine HS.out.fix (d' := { d with broken := true, inn := [], window := 0, waits := false }) (vi := .slice none 0 0) (vo := vo) (vt := vt) HP.out rfl rfl hkk (by simp) ?_ ⟨?_, a, ⟨Row.nil _ _ _, by simp [Value.ownBlock]⟩, ?_, ?_⟩
        · exact HS.out.blk.keeps hkk (by simpa using hnp)
        · exact rblk_eq (HB2.out.drew.set_ 1 (.bool false)) (by simp [rc])
        · exact HC.out.2.2.2.1.keeps hkk (fun k hk hx => by simp at hx; subst hx; omega)
        · exact HC.out.2.2.2.2.keeps hkk (fun k hk hx => by simp at hx; subst hx; omega)
      case measure => simp [intOf] <;> omega
    · have hkl : k = l := by omega
      subst hkl
      have f2' := HS.out.blk.frozen 2
      go_wp2_with fail
      go_end0
      have hkn : Keeps [n] wr (wr.setCell ⟨n, 2, none⟩ (.slice none 0 0)) := (Keeps.refl [n] wr).setCell (p := ⟨n, 2, none⟩) (.inl (by simp)) _
      have hst : stopN N = { NK with queue := [] } := by
        unfold stopN
        rw [← HNK.out, ← HL.out, List.take_length]
        rfl
      rw [hst]
      obtain ⟨F', hr, hl⟩ := HS.out.head (G := [n]) (vq' := .slice none 0 0) (N' := { NK with queue := [] }) rfl hkn (fun k hk _ => by simp at hk; subst hk; exact .inl HS.out.tn) (by simpa [rc] using HS.out.blk.set_ 2 (.slice none 0 0)) (by simpa [natsV] using Row.nil _ 3 1) (by simp [Value.ownBlock])
      have hz := HKP.out.size
      refine ⟨rfl, ⟨F', hr, fun k hk => ?_⟩, HKP.out.trans hkn (fun g hg => .inl (by simp at hg; subst hg; exact hnF))⟩
      rcases hl k hk with e | e
      · exact .inl e
      · exact .inr (by omega)
end Go.Proofs.Ytkeffebcmajhmaa
