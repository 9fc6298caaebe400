/- The reference's net: Accept by contract. -/
import Derived.Test.YtkeffebcmajhmaaPq12
namespace Go.Proofs.Ytkeffebcmajhmaa
open Go.RowKit
set_option linter.unusedVariables false
set_option linter.unusedSimpArgs false
theorem natsV_one (l : List Nat) : ∀ u ∈ natsV l, u.oneCell' = true := by
  intro u hu
  unfold natsV at hu
  obtain ⟨x, -, rfl⟩ := List.mem_map.1 hu
  rfl
theorem rnew_keeps {w w5 : World} {o : Obj} (h : Keeps (Value.slice (some ⟨w.heap.size, 0, none⟩) 0 0).ownBlock.toList (w.alloc o) w5) : Keeps [] w w5 :=
  ((Keeps.refl [] w).alloc o).trans h (fun g hg => by simp [Value.ownBlock] at hg; subst hg; exact .inr (Nat.le_refl _))
theorem rnew_own {w : World} {o : Obj} {v5 : Value} (h : ∀ k, v5.ownBlock = some k → (Value.slice (some ⟨w.heap.size, 0, none⟩) 0 0).ownBlock = some k ∨ (w.alloc o).heap.size ≤ k) : ∀ k, v5.ownBlock = some k → w.heap.size ≤ k := by
  intro k hk
  rcases h k hk with h1 | h1
  · simp [Value.ownBlock] at h1
    omega
  · simp at h1
    omega
set_option maxRecDepth 100000 in
set_option maxHeartbeats 8000000 in
theorem raccept_any (n : Nat) (F : List Nat) (N : NS) (B : Int) (w : World) (h : NRep rc w n F N) (hN : OkN N B) (hB : B ≤ 1099511627776) :
    Calls Try.prog 87 #[.pointer (some ⟨n, 0, none⟩)] w fun e w' => e = .returned (.tuple #[.int .i64 (acceptN N).2.1, .int .i64 (acceptN N).2.2.1, .int .i64 (acceptN N).2.2.2]) ∧ NDone rc w n F (acceptN N).1 w' := by
  have hR := hid h
  obtain ⟨own, ps, vc, vq, h⟩ := h
  have H := hid h
  obtain ⟨A, cap, hvq, -, hcm, -⟩ := h.rq.form
  have c2 := h.blk.cell 2
  have c3 := h.blk.cell 3
  have c4 := h.blk.cell 4
  simp [rc] at c2 c3 c4
  have hf0 := hN.f0
  have hf1 := hN.f1
  have hnF : n ∈ F := hR.out.mem
  obtain ⟨st, hst⟩ : ∃ st, N.stopped = st := ⟨_, rfl⟩
  rw [hst] at c4
  unfold acceptN
  rw [hvq] at c2
  cases st with
  | true =>
    rw [if_pos hst]
    clear h hN hst hvq
    simp only
    go_enter Try.func87, Try.ntmps87
    go_wp2
    go_ret3
    exact ⟨rfl, NDone.same hR.out (Keeps.refl _ _)⟩
  | false =>
    rw [if_neg (by rw [hst]; simp)]
    obtain ⟨Q, hQ⟩ : ∃ Q, N.queue = Q := ⟨_, rfl⟩
    rw [hQ]
    cases Q with
    | nil =>
      rw [hQ] at c2
      simp only [List.length_nil] at c2
      clear h hN hst hvq hQ
      simp only
      go_enter Try.func87, Try.ntmps87
      go_wp2
      go_ret3
      exact ⟨rfl, NDone.same hR.out (Keeps.refl _ _)⟩
    | cons q rest =>
      rw [hQ] at c2
      have hl0 : ((((q :: rest).length : Nat) : Int) == 0) = false := by simp; omega
      obtain ⟨l, hl⟩ : ∃ l, (q :: rest).length = l := ⟨_, rfl⟩
      have hl1 : 0 < l := by rw [← hl]; simp
      rw [hl] at c2 hl0
      simp only
      by_cases hf : 0 < N.fails
      · rw [if_pos hf]
        have hw1 : IntKind.i64.wrap (N.fails - 1) = N.fails - 1 := IntWalk.i64_in _ (by omega)
        have f3 := h.blk.frozen 3
        have HQ := hid hQ
        clear h hN hst hvq hQ hl
        simp only
        go_enter Try.func87, Try.ntmps87
        go_wp2
        go_ret3
        have hk : Keeps [n] w (w.setCell ⟨n, 3, none⟩ (.int .i64 (N.fails - 1))) := (Keeps.refl [n] w).setCell (p := ⟨n, 3, none⟩) (.inl (by simp)) _
        have hrow := H.out.rq.keeps hk (fun k e hx => by
          simp at hx
          subst hx
          have := H.out.oq k e
          rw [H.out.tn] at this
          omega)
        rw [HQ.out] at hrow
        refine ⟨rfl, H.out.head (G := [n]) (vq' := vq) rfl hk ?_ ?_ hrow (fun k e => .inl ⟨H.out.rq.lt k e, H.out.oq k e⟩), hk.mono (by simp; exact hnF)⟩
        · intro k hk _
          simp at hk
          subst hk
          exact .inl H.out.tn
        · simpa [rc] using H.out.blk.set_ 3 (.int .i64 (N.fails - 1))
      · rw [if_neg hf]
        obtain ⟨d, hd, -, -⟩ := hN.qw q (by rw [hQ]; simp)
        rw [hd]
        simp only
        obtain ⟨p, b, off, ccap, hp, rfl, hqk, hle, hccm, hcb, hbn, vi, vo, vt, hc⟩ := h.conn hd
        have hnp : n ≠ p := fun e => by
          have a := h.tn
          have b := hc.2.1
          rw [e, b] at a
          omega
        have hpn : p ≠ n := Ne.symm hnp
        have c1 := h.blk.cell 1
        simp [rc] at c1
        have hqi : (q : Int) < N.cs.length := by omega
        obtain ⟨j1, hj1, hx0, hx1, hx2⟩ := info_parts int_info
        obtain ⟨g, qo, qc, hgq, hqle, -, hqcell, -, -⟩ := h.rq.open_ (by rw [hQ, hl]; omega)
        have hA : A = some ⟨g, qo, none⟩ ∧ qc = cap := by
          rw [hvq] at hgq
          injection hgq with a _ c
          exact ⟨a, c.symm⟩
        obtain ⟨rfl, rfl⟩ := hA
        have q0 := hqcell 0 (.int .i64 q) (by rw [hQ]; simp [natsV])
        rw [Nat.add_zero] at q0
        have hsl := fun wx => run_cut_lo (P := Try.prog) wx 22 3 j1 1 Try.underlying22 hj1 hx1 (some ⟨g, qo, none⟩) l qc 1 (1 : Int) rfl .i64 (by omega)
        have hl1i : (0 : Int) < l := by omega
        have hll : l ≤ qc := by rw [← hl, ← hQ]; exact hqle
        have hlr : l - 1 = rest.length := by rw [← hl]; simp
        have hrl : l ≤ 64 := by
          have h1 := hN.ql
          have h2 := hN.b1
          rw [hQ, hl] at h1
          omega
        have hcut : Row w 3 1 (.slice (cutA (some ⟨g, qo, none⟩) 1 qc 1) (l - 1) (qc - 1)) (l - 1) (natsV rest) := by
          have h1 := h.rq
          rw [hvq, hQ, hl] at h1
          have h2 := h1.cut (lo := 1) (by omega)
          simpa [natsV] using h2
        have HRD := hid hcut.reads
        have HLR := hid hlr
        obtain ⟨l', hl'⟩ : ∃ l', l - 1 = l' := ⟨_, rfl⟩
        rw [hl'] at hsl HRD HLR
        have hl'64 : l' ≤ 64 := by omega
        have HL' := hid hl'
        clear hlr hl'
        have HQ := hid hQ
        have HP := hid hp
        have HD := hid hd
        have HC := hid hc
        have hfn : ¬ 0 < N.fails := hf
        have f2 := h.blk.frozen 2
        have m1 := fun o => alloc_cell c1 o
        have m2 := fun o => alloc_cell c2 o
        unfold maxLen at hcm
        clear h hN hst hvq hQ hl hp hd hc hgq hqcell hf hcut
        go_enter Try.func87, Try.ntmps87
        go_wp2_with (at_builtin; go_loud (refine wpList_append_row _ rfl (.tmp 35) (.tmp 40) _ rfl 3 j1 _ 1 8 Try.underlying22 hj1 hx0 hx1 hx2 rfl (by omega) (.slice (some ⟨w.heap.size, 0, none⟩) 0 0) 0 [] rfl (Row.empty w _) _ l' (qc - 1) (natsV rest) rfl (HRD.out.alloc _) (natsV_one _) (by simp only [maxLen]; omega) (by omega) ?_); intro v5 w5 hv5 hk5 ho5; rw [Nat.zero_add, List.nil_append] at hv5; obtain ⟨A5, q5, rfl, -⟩ := hv5.form; have hk5' := rnew_keeps hk5; have ho5' := rnew_own ho5; have e1 := cell_keep hk5' (by simp) c1; have e2 := cell_keep hk5' (by simp) c2; have eb := cell_keep hk5' (by simp) hcb; have k2 := (H.out.blk.keeps hk5' (by simp)).frozen 2; have HV5 := hid hv5; have HK5 := hid hk5'; have HO5 := hid ho5'; clear hv5 hk5 ho5 hk5' ho5')
        obtain ⟨wy, hwy⟩ : ∃ x, w5.setCell ⟨n, 2, none⟩ (.slice A5 l' q5) = x := ⟨_, rfl⟩
        rw [hwy]
        have hkn : Keeps [n] w wy := by rw [← hwy]; exact (HK5.out.mono (by simp)).setCell (p := ⟨n, 2, none⟩) (.inl (by simp)) _
        have hby : Blk wy n rc.NT (rc.nlay N (.slice (some ⟨b, off, none⟩) N.cs.length ccap) (.slice A5 l' q5)) := by rw [← hwy]; simpa [rc] using (H.out.blk.keeps HK5.out (by simp)).set_ 2 (.slice A5 l' q5)
        have hpy : Blk wy p rc.T (rc.lay d vi vo vt) := HC.out.1.keeps hkn (by simpa using hpn)
        have hqy : Row wy 3 1 (.slice A5 l' q5) l' (natsV rest) := by rw [← hwy]; exact HV5.out.far (p := ⟨n, 2, none⟩) (fun k e => HV5.out.blk_ne (H.out.blk.keeps HK5.out (by simp)) (by decide) k e) _
        have y1 := hby.cell 1
        have yb := cell_keep hkn (by simpa using hbn) hcb
        have d0 := hpy.cell 0
        have d1 := hpy.cell 1
        have d2 := hpy.cell 2
        have d3 := hpy.cell 3
        have g1 := hpy.frozen 1
        have g2 := hpy.frozen 2
        have g3 := hpy.frozen 3
        simp [rc] at y1 d0 d1 d2 d3
        have HKN := hid hkn
        have HBY := hid hby
        have HPY := hid hpy
        have HQY := hid hqy
        clear hwy hkn hby hpy hqy e1 e2 eb k2 HV5 HK5
        have hbp : b ≠ p := fun e => by
          have a1 := H.out.oc b (by simp [Value.ownBlock])
          have a2 := HC.out.2.1
          rw [← e, a1] at a2
          omega
        go_cut [] (fun wx => Keeps [p] wy wx ∧ Blk wx p rc.T (rc.lay { d with waits := false, opn := true, taken := true } vi vo vt))
        case first =>
          obtain ⟨S, hSe⟩ : ∃ S : World → Prop, ∀ w', S w' ↔ (w'.cell? ⟨n, 1, none⟩ = some (.slice (some ⟨b, off, none⟩) N.cs.length ccap) ∧ w'.cell? ⟨b, off + q, none⟩ = some (.pointer (some ⟨p, 0, none⟩))) := ⟨_, fun _ => Iff.rfl⟩
          have hSw1 : S wy.drew := (hSe _).2 ⟨y1, yb⟩
          have hSk : ∀ W, Keeps [p] wy W → S W := fun W hW => (hSe _).2 ⟨cell_keep hW (by simpa using hnp) y1, cell_keep hW (by simpa using hbp) yb⟩
          refine wp_region_held_drew (S := S) (by kernel_rfl) hSw1 (fun hHeld => ?_)
          refine wpAnyH_take (i := 0) (v := ?_) rfl (by kernel_rfl) (by kernel_rfl) (by kernel_rfl) (fun _ _ _ h => h) ?_ (by assumption) ?_
          rotate_left 1
          · first | (apply Or.inl; constructor; rfl; intro W hSw; obtain ⟨s1', s2'⟩ := (hSe W).1 hSw; go_simp; try (with_reducible rfl)) | (apply Or.inr; constructor; rfl; rfl)
          try simp only [Act.put, List.getElem_toArray, List.getElem_cons_succ, List.getElem_cons_zero, List.setIfInBounds_toArray, List.set_cons_zero, List.set_cons_succ]
          refine wpAnyH_take (i := 1) (v := ?_) rfl (by kernel_rfl) (by kernel_rfl) (by kernel_rfl) (fun _ _ _ h => h) ?_ (by assumption) ?_
          rotate_left 1
          · first | (apply Or.inl; constructor; rfl; intro W hSw; obtain ⟨s1', s2'⟩ := (hSe W).1 hSw; go_simp; try (with_reducible rfl)) | (apply Or.inr; constructor; rfl; rfl)
          try simp only [Act.put, List.getElem_toArray, List.getElem_cons_succ, List.getElem_cons_zero, List.setIfInBounds_toArray, List.set_cons_zero, List.set_cons_succ]
          refine wpAnyH_take (i := 2) (v := ?_) rfl (by kernel_rfl) (by kernel_rfl) (by kernel_rfl) (fun _ _ _ h => h) ?_ (by assumption) ?_
          rotate_left 1
          · first | (apply Or.inl; constructor; rfl; intro W hSw; obtain ⟨s1', s2'⟩ := (hSe W).1 hSw; go_simp; try (with_reducible rfl)) | (apply Or.inr; constructor; rfl; rfl)
          try simp only [Act.put, List.getElem_toArray, List.getElem_cons_succ, List.getElem_cons_zero, List.setIfInBounds_toArray, List.set_cons_zero, List.set_cons_succ]
          refine wpAnyH_take (i := 3) (v := ?_) rfl (by kernel_rfl) (by kernel_rfl) (by kernel_rfl) (fun _ _ _ h => h) ?_ (by assumption) ?_
          rotate_left 1
          · first | (apply Or.inl; constructor; rfl; intro W hSw; obtain ⟨s1', s2'⟩ := (hSe W).1 hSw; go_simp; try (with_reducible rfl)) | (apply Or.inr; constructor; rfl; rfl)
          try simp only [Act.put, List.getElem_toArray, List.getElem_cons_succ, List.getElem_cons_zero, List.setIfInBounds_toArray, List.set_cons_zero, List.set_cons_succ]
          refine wpAnyH_take (i := 4) (v := ?_) rfl (by kernel_rfl) (by kernel_rfl) (by kernel_rfl) (fun _ _ _ h => h) ?_ (by assumption) ?_
          rotate_left 1
          · first | (apply Or.inl; constructor; rfl; intro W hSw; obtain ⟨s1', s2'⟩ := (hSe W).1 hSw; go_simp; try (with_reducible rfl)) | (apply Or.inr; constructor; rfl; rfl)
          try simp only [Act.put, List.getElem_toArray, List.getElem_cons_succ, List.getElem_cons_zero, List.setIfInBounds_toArray, List.set_cons_zero, List.set_cons_succ]
          refine wpAnyH_take (i := 5) (v := ?_) rfl (by kernel_rfl) (by kernel_rfl) (by kernel_rfl) (fun _ _ _ h => h) ?_ (by assumption) ?_
          rotate_left 1
          · first | (apply Or.inl; constructor; rfl; intro W hSw; obtain ⟨s1', s2'⟩ := (hSe W).1 hSw; go_simp; try (with_reducible rfl)) | (apply Or.inr; constructor; rfl; rfl)
          try simp only [Act.put, List.getElem_toArray, List.getElem_cons_succ, List.getElem_cons_zero, List.setIfInBounds_toArray, List.set_cons_zero, List.set_cons_succ]
          refine wpAnyH_take (i := 6) (v := ?_) rfl (by kernel_rfl) (by kernel_rfl) (by kernel_rfl) (fun _ _ _ h => h) ?_ (by assumption) ?_
          rotate_left 1
          · first | (apply Or.inl; constructor; rfl; intro W hSw; obtain ⟨s1', s2'⟩ := (hSe W).1 hSw; go_simp; try (with_reducible rfl)) | (apply Or.inr; constructor; rfl; rfl)
          try simp only [Act.put, List.getElem_toArray, List.getElem_cons_succ, List.getElem_cons_zero, List.setIfInBounds_toArray, List.set_cons_zero, List.set_cons_succ]
          refine wpAnyH_take (i := 7) (v := ?_) rfl (by kernel_rfl) (by kernel_rfl) (by kernel_rfl) (fun _ _ _ h => h) ?_ (by assumption) ?_
          rotate_left 1
          · first | (apply Or.inl; constructor; rfl; intro W hSw; obtain ⟨s1', s2'⟩ := (hSe W).1 hSw; go_simp; try (with_reducible rfl)) | (apply Or.inr; constructor; rfl; rfl)
          try simp only [Act.put, List.getElem_toArray, List.getElem_cons_succ, List.getElem_cons_zero, List.setIfInBounds_toArray, List.set_cons_zero, List.set_cons_succ]
          refine wpAnyH_take (i := 8) (v := ?_) rfl (by kernel_rfl) (by kernel_rfl) (by kernel_rfl) (fun _ _ _ h => h) ?_ (by assumption) ?_
          rotate_left 1
          · first | (apply Or.inl; constructor; rfl; intro W hSw; obtain ⟨s1', s2'⟩ := (hSe W).1 hSw; go_simp; try (with_reducible rfl)) | (apply Or.inr; constructor; rfl; rfl)
          try simp only [Act.put, List.getElem_toArray, List.getElem_cons_succ, List.getElem_cons_zero, List.setIfInBounds_toArray, List.set_cons_zero, List.set_cons_succ]
          refine wpAnyH_take (i := 9) (v := ?_) rfl (by kernel_rfl) (by kernel_rfl) (by kernel_rfl) (fun _ _ _ h => h) ?_ (by assumption) ?_
          rotate_left 1
          · first | (apply Or.inl; constructor; rfl; intro W hSw; obtain ⟨s1', s2'⟩ := (hSe W).1 hSw; go_simp; try (with_reducible rfl)) | (apply Or.inr; constructor; rfl; rfl)
          try simp only [Act.put, List.getElem_toArray, List.getElem_cons_succ, List.getElem_cons_zero, List.setIfInBounds_toArray, List.set_cons_zero, List.set_cons_succ]
          refine wpAnyH_take (i := 10) (v := ?_) rfl (by kernel_rfl) (by kernel_rfl) (by kernel_rfl) (fun _ _ _ h => h) ?_ (by assumption) ?_
          rotate_left 1
          · first | (apply Or.inl; constructor; rfl; intro W hSw; obtain ⟨s1', s2'⟩ := (hSe W).1 hSw; go_simp; try (with_reducible rfl)) | (apply Or.inr; constructor; rfl; rfl)
          try simp only [Act.put, List.getElem_toArray, List.getElem_cons_succ, List.getElem_cons_zero, List.setIfInBounds_toArray, List.set_cons_zero, List.set_cons_succ]
          refine wpAnyH_take (i := 11) (v := ?_) rfl (by kernel_rfl) (by kernel_rfl) (by kernel_rfl) (fun _ _ _ h => h) ?_ (by assumption) ?_
          rotate_left 1
          · first | (apply Or.inl; constructor; rfl; intro W hSw; obtain ⟨s1', s2'⟩ := (hSe W).1 hSw; go_simp; try (with_reducible rfl)) | (apply Or.inr; constructor; rfl; rfl)
          try simp only [Act.put, List.getElem_toArray, List.getElem_cons_succ, List.getElem_cons_zero, List.setIfInBounds_toArray, List.set_cons_zero, List.set_cons_succ]
          refine wpAnyH_take (i := 12) (v := ?_) rfl (by kernel_rfl) (by kernel_rfl) (by kernel_rfl) (fun _ _ _ h => h) ?_ (by assumption) ?_
          rotate_left 1
          · first | (apply Or.inl; constructor; rfl; intro W hSw; obtain ⟨s1', s2'⟩ := (hSe W).1 hSw; go_simp; try (with_reducible rfl)) | (apply Or.inr; constructor; rfl; rfl)
          try simp only [Act.put, List.getElem_toArray, List.getElem_cons_succ, List.getElem_cons_zero, List.setIfInBounds_toArray, List.set_cons_zero, List.set_cons_succ]
          refine wpAnyH_take (i := 13) (v := ?_) rfl (by kernel_rfl) (by kernel_rfl) (by kernel_rfl) (fun _ _ _ h => h) ?_ (by assumption) ?_
          rotate_left 1
          · first | (apply Or.inl; constructor; rfl; intro W hSw; obtain ⟨s1', s2'⟩ := (hSe W).1 hSw; go_simp; try (with_reducible rfl)) | (apply Or.inr; constructor; rfl; rfl)
          try simp only [Act.put, List.getElem_toArray, List.getElem_cons_succ, List.getElem_cons_zero, List.setIfInBounds_toArray, List.set_cons_zero, List.set_cons_succ]
          refine wpAnyH_take (i := 14) (v := ?_) rfl (by kernel_rfl) (by kernel_rfl) (by kernel_rfl) (fun _ _ _ h => h) ?_ (by assumption) ?_
          rotate_left 1
          · first | (apply Or.inl; constructor; rfl; intro W hSw; obtain ⟨s1', s2'⟩ := (hSe W).1 hSw; go_simp; try (with_reducible rfl)) | (apply Or.inr; constructor; rfl; rfl)
          try simp only [Act.put, List.getElem_toArray, List.getElem_cons_succ, List.getElem_cons_zero, List.setIfInBounds_toArray, List.set_cons_zero, List.set_cons_succ]
          refine wpAnyH_take (i := 15) (v := ?_) rfl (by kernel_rfl) (by kernel_rfl) (by kernel_rfl) (fun _ _ _ h => h) ?_ (by assumption) ?_
          rotate_left 1
          · first | (apply Or.inl; constructor; rfl; intro W hSw; obtain ⟨s1', s2'⟩ := (hSe W).1 hSw; go_simp; try (with_reducible rfl)) | (apply Or.inr; constructor; rfl; rfl)
          try simp only [Act.put, List.getElem_toArray, List.getElem_cons_succ, List.getElem_cons_zero, List.setIfInBounds_toArray, List.set_cons_zero, List.set_cons_succ]
          refine wpAnyH_take (i := 16) (v := ?_) rfl (by kernel_rfl) (by kernel_rfl) (by kernel_rfl) (fun _ _ _ h => h) ?_ (by assumption) ?_
          rotate_left 1
          · first | (apply Or.inl; constructor; rfl; intro W hSw; obtain ⟨s1', s2'⟩ := (hSe W).1 hSw; go_simp; try (with_reducible rfl)) | (apply Or.inr; constructor; rfl; rfl)
          try simp only [Act.put, List.getElem_toArray, List.getElem_cons_succ, List.getElem_cons_zero, List.setIfInBounds_toArray, List.set_cons_zero, List.set_cons_succ]
          refine wpAnyH_take (i := 17) (v := ?_) rfl (by kernel_rfl) (by kernel_rfl) (by kernel_rfl) (fun _ _ _ h => h) ?_ (by assumption) ?_
          rotate_left 1
          · first | (apply Or.inl; constructor; rfl; intro W hSw; obtain ⟨s1', s2'⟩ := (hSe W).1 hSw; go_simp; try (with_reducible rfl)) | (apply Or.inr; constructor; rfl; rfl)
          try simp only [Act.put, List.getElem_toArray, List.getElem_cons_succ, List.getElem_cons_zero, List.setIfInBounds_toArray, List.set_cons_zero, List.set_cons_succ]
          refine wpAnyH_take (i := 18) (v := ?_) rfl (by kernel_rfl) (by kernel_rfl) (by kernel_rfl) (fun _ _ _ h => h) ?_ (by assumption) ?_
          rotate_left 1
          · first | (apply Or.inl; constructor; rfl; intro W hSw; obtain ⟨s1', s2'⟩ := (hSe W).1 hSw; go_simp; try (with_reducible rfl)) | (apply Or.inr; constructor; rfl; rfl)
          try simp only [Act.put, List.getElem_toArray, List.getElem_cons_succ, List.getElem_cons_zero, List.setIfInBounds_toArray, List.set_cons_zero, List.set_cons_succ]
          refine wpAnyH_take (i := 19) (v := ?_) rfl (by kernel_rfl) (by kernel_rfl) (by kernel_rfl) (fun _ _ _ h => h) ?_ (by assumption) ?_
          rotate_left 1
          · first | (apply Or.inl; constructor; rfl; intro W hSw; obtain ⟨s1', s2'⟩ := (hSe W).1 hSw; go_simp; try (with_reducible rfl)) | (apply Or.inr; constructor; rfl; rfl)
          try simp only [Act.put, List.getElem_toArray, List.getElem_cons_succ, List.getElem_cons_zero, List.setIfInBounds_toArray, List.set_cons_zero, List.set_cons_succ]
          refine wpAnyH_take (i := 20) (v := ?_) rfl (by kernel_rfl) (by kernel_rfl) (by kernel_rfl) (fun _ _ _ h => h) ?_ (by assumption) ?_
          rotate_left 1
          · first | (apply Or.inl; constructor; rfl; intro W hSw; obtain ⟨s1', s2'⟩ := (hSe W).1 hSw; go_simp; try (with_reducible rfl)) | (apply Or.inr; constructor; rfl; rfl)
          try simp only [Act.put, List.getElem_toArray, List.getElem_cons_succ, List.getElem_cons_zero, List.setIfInBounds_toArray, List.set_cons_zero, List.set_cons_succ]
          refine wpAnyH_take (i := 21) (v := ?_) rfl (by kernel_rfl) (by kernel_rfl) (by kernel_rfl) (fun _ _ _ h => h) ?_ (by assumption) ?_
          rotate_left 1
          · first | (apply Or.inl; constructor; rfl; intro W hSw; obtain ⟨s1', s2'⟩ := (hSe W).1 hSw; go_simp; try (with_reducible rfl)) | (apply Or.inr; constructor; rfl; rfl)
          try simp only [Act.put, List.getElem_toArray, List.getElem_cons_succ, List.getElem_cons_zero, List.setIfInBounds_toArray, List.set_cons_zero, List.set_cons_succ]
          refine wpAnyH_take (i := 22) (v := ?_) rfl (by kernel_rfl) (by kernel_rfl) (by kernel_rfl) (fun _ _ _ h => h) ?_ (by assumption) ?_
          rotate_left 1
          · first | (apply Or.inl; constructor; rfl; intro W hSw; obtain ⟨s1', s2'⟩ := (hSe W).1 hSw; go_simp; try (with_reducible rfl)) | (apply Or.inr; constructor; rfl; rfl)
          try simp only [Act.put, List.getElem_toArray, List.getElem_cons_succ, List.getElem_cons_zero, List.setIfInBounds_toArray, List.set_cons_zero, List.set_cons_succ]
          refine wpAnyH_ready (rs := [23]) (by kernel_rfl) (by simp) ?_
          refine AllReadyH.cons rfl (fun K hK => ?_) AllReadyH.nil
          go_simp
          refine hK.out _ _ (hSk _ (by (repeat (first | exact Keeps.refl _ _ | exact .inl (by simp) | apply Keeps.drew | apply Keeps.setCell)))) (fun hHeld => ?_)
          clear hK K
          refine wpAnyH_take (i := 24) (v := ?_) rfl (by kernel_rfl) (by kernel_rfl) (by kernel_rfl) (fun _ _ _ h => h) ?_ (by assumption) ?_
          rotate_left 1
          · first | (apply Or.inl; constructor; rfl; intro W hSw; obtain ⟨s1', s2'⟩ := (hSe W).1 hSw; go_simp; try (with_reducible rfl)) | (apply Or.inr; constructor; rfl; rfl)
          try simp only [Act.put, List.getElem_toArray, List.getElem_cons_succ, List.getElem_cons_zero, List.setIfInBounds_toArray, List.set_cons_zero, List.set_cons_succ]
          refine wpAnyH_take (i := 25) (v := ?_) rfl (by kernel_rfl) (by kernel_rfl) (by kernel_rfl) (fun _ _ _ h => h) ?_ (by assumption) ?_
          rotate_left 1
          · first | (apply Or.inl; constructor; rfl; intro W hSw; obtain ⟨s1', s2'⟩ := (hSe W).1 hSw; go_simp; try (with_reducible rfl)) | (apply Or.inr; constructor; rfl; rfl)
          try simp only [Act.put, List.getElem_toArray, List.getElem_cons_succ, List.getElem_cons_zero, List.setIfInBounds_toArray, List.set_cons_zero, List.set_cons_succ]
          refine wpAnyH_ready (rs := [26]) (by kernel_rfl) (by simp) ?_
          refine AllReadyH.cons rfl (fun K hK => ?_) AllReadyH.nil
          go_simp
          refine hK.out _ _ (hSk _ (by (repeat (first | exact Keeps.refl _ _ | exact .inl (by simp) | apply Keeps.drew | apply Keeps.setCell)))) (fun hHeld => ?_)
          clear hK K
          refine wpAnyH_take (i := 27) (v := ?_) rfl (by kernel_rfl) (by kernel_rfl) (by kernel_rfl) (fun _ _ _ h => h) ?_ (by assumption) ?_
          rotate_left 1
          · first | (apply Or.inl; constructor; rfl; intro W hSw; obtain ⟨s1', s2'⟩ := (hSe W).1 hSw; go_simp; try (with_reducible rfl)) | (apply Or.inr; constructor; rfl; rfl)
          try simp only [Act.put, List.getElem_toArray, List.getElem_cons_succ, List.getElem_cons_zero, List.setIfInBounds_toArray, List.set_cons_zero, List.set_cons_succ]
          refine wpAnyH_take (i := 28) (v := ?_) rfl (by kernel_rfl) (by kernel_rfl) (by kernel_rfl) (fun _ _ _ h => h) ?_ (by assumption) ?_
          rotate_left 1
          · first | (apply Or.inl; constructor; rfl; intro W hSw; obtain ⟨s1', s2'⟩ := (hSe W).1 hSw; go_simp; try (with_reducible rfl)) | (apply Or.inr; constructor; rfl; rfl)
          try simp only [Act.put, List.getElem_toArray, List.getElem_cons_succ, List.getElem_cons_zero, List.setIfInBounds_toArray, List.set_cons_zero, List.set_cons_succ]
          refine wpAnyH_ready (rs := [29]) (by kernel_rfl) (by simp) ?_
          refine AllReadyH.cons rfl (fun K hK => ?_) AllReadyH.nil
          go_simp
          refine hK.out _ _ (hSk _ (by (repeat (first | exact Keeps.refl _ _ | exact .inl (by simp) | apply Keeps.drew | apply Keeps.setCell)))) (fun hHeld => ?_)
          clear hK K
          refine wpAnyH_done (by kernel_rfl) ?_ _
          go_wp2_with fail
          go_meet
          case rel => exact ⟨by (repeat (first | exact Keeps.refl _ _ | exact .inl (by simp) | apply Keeps.drew | apply Keeps.setCell)), rblk_eq (by (repeat (first | exact HPY.out | apply Blk.drew | apply Blk.set_))) (by simp [rc])⟩
        case rest =>
        obtain ⟨hkc, hbc⟩ := hcut
        have z1 := cell_keep hkc (by simpa using hnp) y1
        have zb := cell_keep hkc (by simpa using hbp) yb
        have z0 := hbc.cell 0
        simp [rc] at z0
        have HKC := hid hkc
        have HBC := hid hbc
        clear hkc hbc
        go_wp2_with fail
        go_quiet (fail)
        go_wp2_with fail
        go_ret3
        obtain ⟨a1, a2, a3, a4, a5⟩ := HC.out
        have K : Keeps [n, p] w wc := (HKN.out.mono (by simp)).trans HKC.out (fun g hg => .inl (by simp at hg; simp [hg]))
        have hpF : p ∈ F := H.out.ftag p (by omega)
        have hnot : ∀ k, own k ≠ 1 → own k ≠ 4 * q + 4 → k ∉ [n, p] := fun k b1 b2 hx => by
          simp at hx
          rcases hx with rfl | rfl
          · exact b1 H.out.tn
          · exact b2 a2
        obtain ⟨F', hr, hl⟩ := H.out.put (i := q) (p := p) (G := [n, p]) (d' := { d with waits := false, opn := true, taken := true }) (vi := vi) (vo := vo) (vt := vt) (vq' := .slice A5 l' q5) (N' := { N with queue := rest, cs := N.cs.set q { d with waits := false, opn := true, taken := true }, nopen := N.nopen + 1 }) HP.out rfl K (by
            intro k hk' _
            simp at hk'
            rcases hk' with rfl | rfl
            · exact .inl H.out.tn
            · omega) a2 a1.lt (by simpa [rc] using HBY.out.keeps HKC.out (by simpa using hnp)) (by
            simp only
            rw [← HLR.out]
            exact HQY.out.keeps HKC.out (fun k e hx => by simp at hx; subst hx; exact HQY.out.blk_ne HPY.out (by decide) k e rfl)) HBC.out
            (a3.1.keeps K (fun k e => hnot k (by rw [a3.2 k e]; omega) (by rw [a3.2 k e]; omega))) (a4.1.keeps K (fun k e => hnot k (by rw [a4.2 k e]; omega) (by rw [a4.2 k e]; omega))) (a5.1.keeps K (fun k e => hnot k (by rw [a5.2 k e]; omega) (by rw [a5.2 k e]; omega)))
            (fun k e => .inl ⟨a3.1.lt k e, a3.2 k e⟩) (fun k e => .inl ⟨a4.1.lt k e, a4.2 k e⟩) (fun k e => .inl ⟨a5.1.lt k e, a5.2 k e⟩) (fun k e => .inr (HO5.out k e)) (by
            intro k hge
            have b := fun e => a4.1.lt k e
            have c := fun e => a5.1.lt k e
            have e3 := fun e => a3.1.lt k e
            refine ⟨fun e => ?_, fun e => ?_, fun e => ?_⟩
            · have := e3 e
              omega
            · have := b e
              omega
            · have := c e
              omega)
        refine ⟨rfl, ⟨F', hr.keeps (K := []) (by (repeat (first | exact Keeps.refl _ _ | apply Keeps.drewN | apply Keeps.drew))) (by simp), hl⟩, ?_⟩
        refine Keeps.mono (F := [n, p]) ?_ (by simp [hpF, hnF])
        (repeat (first | exact K | apply Keeps.drewN | apply Keeps.drew))
end Go.Proofs.Ytkeffebcmajhmaa
