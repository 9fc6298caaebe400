/- The reference's poller: Wait by contract. -/
import Derived.Test.YtkeffebcmajhmaaPq30
namespace Go.Proofs.Ytkeffebcmajhmaa
open Go.RowKit
set_option linter.unusedVariables false
set_option linter.unusedSimpArgs false
theorem row_none5 (w : World) (e : TypeId) : Row (w.alloc (.cells #[] e)) e 5 (.slice (some ⟨w.heap.size, 0, none⟩) 0 0) 0 [] :=
  ⟨by simp, .inr ⟨w.heap.size, 0, 0, #[], rfl, Blk.new w e #[], Nat.le_refl _, by simp [maxLen], by simp, by simp⟩⟩
set_option maxRecDepth 100000 in
set_option maxHeartbeats 40000000 in
theorem rwait_any (xb n : Nat) (F : List Nat) (N : NS) (L : List Slot) (c : Int) (D : Nat → Wd) (pv : Value) (ps : List Int) (w : World) (h : RPRep w xb n F N L c D) (hL : L.length ≤ 1099511627776) (hp : CellsIn w F pv (ps.map (.int .i64))) (hpl : ps.length ≤ 1099511627776) :
    Calls Try.prog 70 #[.pointer (some ⟨xb, 0, none⟩), pv] w (RWaitPost w xb n F N L c D ps) := by
  obtain ⟨s, m, Fn, Fs, W, f, h, rfl⟩ := h
  have H := hid h
  have p0 := h.blk.cell 0
  have p1 := h.blk.cell 1
  have p2 := h.blk.cell 2
  simp [pcells] at p0 p1 p2
  have HPV := hid hp
  obtain ⟨POST, hPOST⟩ : ∃ P, RWaitPost w xb n (xb :: m :: (Fn ++ (Fs ++ W))) N L c D ps = P := ⟨_, rfl⟩
  rw [hPOST]
  have HP := hid hPOST
  clear hPOST
  obtain ⟨PA, pcap, rfl, hp1, hp2⟩ := hp.shape
  simp only [List.length_map] at hp1 HPV ⊢
  clear h hp
  obtain ⟨i1, hi1, hy0, hy1, hy2⟩ := info_parts event_info
  obtain ⟨j1, hj1, hx0, hx1, hx2⟩ := info_parts int_info
  obtain ⟨hs, hhs⟩ : ∃ hs, allFrom 0 L = hs := ⟨_, rfl⟩
  have hhl : hs.length ≤ 1099511627776 := by rw [← hhs]; have := allFrom_le L 0; omega
  have HHS := hid hhs
  clear hhs
  go_enter Try.func70, Try.ntmps70
  go_wp2_with (go_at_call 32; refine (rsall_any s Fs 4096 c L _ H.out.slab hL).mono ?_; rw [HHS.out]; rintro e w1 ⟨⟨hv, rfl, hv1, ho1⟩, hk1⟩; obtain ⟨HA, hcp, rfl, hc1, hc2, -⟩ := hv1.form; have HV0 := hid hv1; have HO1 := hid ho1; have HK1 := hid hk1; clear hv1 ho1 hk1)
  have HV1 : Hid (HsIn w1 W (.slice HA hs.length hcp) hs) := hid (Row.hsIn HV0.out (fun k hk hx => by
    have h5 := HO1.out _ hk
    have h6 := (H.out.wl k hx).1
    omega))
  clear HV0
  go_loopw [5, 7, 8, 9, 10, 11, 12] (fun l i _ _ _ _ _ wr => ∃ (k : Nat) (q : List Ev), k ≤ hs.length ∧ i = .int .i64 k ∧ (hs.take k).flatMap (evAtR N D) = q ∧ q.length ≤ k ∧ Row wr 95 5 l q.length (evsV q) ∧ (∀ j, l.ownBlock = some j → w1.heap.size ≤ j) ∧ RPAt wr xb n s m Fn Fs W N L c f (stD N hs D k) ∧ Keeps W w1 wr) (fun _ i _ _ _ _ _ _ => hs.length - (intOf i).toNat)
  case atStart => exact ⟨0, [], Nat.zero_le _, rfl, rfl, Nat.le_refl _, Row.nil _ _ _, by simp [Value.ownBlock], by rw [stD_zero]; exact H.out.next HK1.out, Keeps.refl _ _⟩
  case round =>
    obtain ⟨k, q, hk, rfl, hq, hqk, hrow, hob, hpat, hkp⟩ := hrel
    have HROW := hid hrow
    have HOB := hid hob
    have HQ := hid hq
    have HPA := hid hpat
    have HKP := hid hkp
    obtain ⟨LA, lc, rfl, -⟩ := hrow.form
    clear hrow hob hq hpat hkp
    by_cases hlt : k < hs.length
    · obtain ⟨hd, hhd⟩ : ∃ d, hs[k]? = some d := ⟨hs[k], List.getElem?_eq_getElem hlt⟩
      obtain ⟨kk, v, hkk, hLk⟩ := (allFrom_mem L 0 hd).1 (by rw [HHS.out]; exact List.mem_of_getElem? hhd)
      rw [Nat.zero_add] at hkk
      obtain ⟨ha, hg⟩ := hd
      simp only at hkk hLk
      subst hkk
      obtain ⟨p, hf, hbp, -⟩ := HPA.out.at_ kk hg v hLk
      rw [stD_out hhd (by rw [← HHS.out]; exact allFrom_nodup L 0)] at hbp
      obtain ⟨d, hdd⟩ : ∃ d, D kk = d := ⟨_, rfl⟩
      rw [hdd] at hbp
      have hpW := HPA.out.fw _ _ hf
      have hpw := H.out.wl p hpW
      obtain ⟨b1, o1, rfl, hb1W, hc1'⟩ := (HV1.out.keeps HKP.out (fun y hy => .inl hy)).at_ (by omega)
      obtain ⟨d0, d1⟩ := hc1' k _ hhd
      simp only at d0 d1
      have HX := hid (⟨hhd, hLk, hf, hpW, hdd, hpw.1, hb1W⟩ : hs[k]? = some ((kk : Int), hg) ∧ L[kk]? = some (hg, true, v) ∧ f kk = some p ∧ p ∈ W ∧ D kk = d ∧ p < w.heap.size ∧ b1 ∉ W)
      have hb1p : b1 ≠ p := fun e => hb1W (e ▸ hpW)
      have HB1L : Hid (b1 < w1.heap.size) := hid (by
        obtain ⟨b', o', he, -, hcc⟩ := HV1.out.at_ (by omega)
        injection he with he
        injection he with he1 he2
        subst he1
        exact World.block_lt_of_cell? w1 _ (hcc k _ hhd).1)
      have HBP := hid hbp
      have e0 := HPA.out.blk.cell 0
      have e2 := HPA.out.blk.cell 2
      simp [pcells] at e0 e2
      have c0 := hbp.cell 0
      simp [wcells] at c0
      have hlk : ∀ (j : Nat), (Instr.lookup 127 (.map (some m)) (.int .i64 kk) false).run Try.prog (wr.drewN j) = .ok (.pointer (some ⟨p, 0, none⟩)) (wr.drewN j) := fun j => by
        have := run_lookI (HPA.out.map.keeps ((Keeps.refl [] wr).drewN j) (by simp)) (kk : Int)
        rw [hf] at this
        exact this
      have hki : (k : Int) < hs.length := by omega
      clear hc1' hbp hf hpW hpw hdd hhd hLk hb1W
      go_wp2_with fail
      go_quiet (fail)
      go_wp2_with fail
      obtain ⟨S, hSe⟩ : ∃ S : World → Prop, ∀ w', S w' ↔ (w'.cell? ⟨xb, 0, none⟩ = some (.pointer (some ⟨n, 0, none⟩)) ∧ w'.cell? ⟨p, 0, none⟩ = some (.int .i64 d.id)) := ⟨_, fun _ => Iff.rfl⟩
      have hSk : ∀ w', Keeps [] wr w' → S w' := fun w' hk => (hSe _).2 ⟨cell_keep hk (by simp) e0, cell_keep hk (by simp) c0⟩
      refine wp_region_held_drew (S := S) (by kernel_rfl) (hSk _ (by (repeat (first | exact Keeps.refl _ wr | apply Keeps.drewN | apply Keeps.drew)))) (fun hHeld => ?_)
      refine wpAnyH_take (i := 0) (v := ?_) rfl (by kernel_rfl) (by kernel_rfl) (by kernel_rfl) (fun _ _ _ h => h) ?_ (by assumption) ?_
      rotate_left 1
      · first | (apply Or.inl; constructor; rfl; intro Wx hSw; obtain ⟨s1_, s2_⟩ := (hSe _).1 hSw; go_simp; try (with_reducible rfl)) | (apply Or.inr; constructor; rfl; rfl)
      try simp only [Act.put, List.getElem_toArray, List.getElem_cons_succ, List.getElem_cons_zero, List.setIfInBounds_toArray, List.set_cons_zero, List.set_cons_succ]
      refine wpAnyH_take (i := 1) (v := ?_) rfl (by kernel_rfl) (by kernel_rfl) (by kernel_rfl) (fun _ _ _ h => h) ?_ (by assumption) ?_
      rotate_left 1
      · first | (apply Or.inl; constructor; rfl; intro Wx hSw; obtain ⟨s1_, s2_⟩ := (hSe _).1 hSw; go_simp; try (with_reducible rfl)) | (apply Or.inr; constructor; rfl; rfl)
      try simp only [Act.put, List.getElem_toArray, List.getElem_cons_succ, List.getElem_cons_zero, List.setIfInBounds_toArray, List.set_cons_zero, List.set_cons_succ]
      refine wpAnyH_take (i := 2) (v := ?_) rfl (by kernel_rfl) (by kernel_rfl) (by kernel_rfl) (fun _ _ _ h => h) ?_ (by assumption) ?_
      rotate_left 1
      · first | (apply Or.inl; constructor; rfl; intro Wx hSw; obtain ⟨s1_, s2_⟩ := (hSe _).1 hSw; go_simp; try (with_reducible rfl)) | (apply Or.inr; constructor; rfl; rfl)
      try simp only [Act.put, List.getElem_toArray, List.getElem_cons_succ, List.getElem_cons_zero, List.setIfInBounds_toArray, List.set_cons_zero, List.set_cons_succ]
      refine wpAnyH_take (i := 3) (v := ?_) rfl (by kernel_rfl) (by kernel_rfl) (by kernel_rfl) (fun _ _ _ h => h) ?_ (by assumption) ?_
      rotate_left 1
      · first | (apply Or.inl; constructor; rfl; intro Wx hSw; obtain ⟨s1_, s2_⟩ := (hSe _).1 hSw; go_simp; try (with_reducible rfl)) | (apply Or.inr; constructor; rfl; rfl)
      try simp only [Act.put, List.getElem_toArray, List.getElem_cons_succ, List.getElem_cons_zero, List.setIfInBounds_toArray, List.set_cons_zero, List.set_cons_succ]
      refine wpAnyH_take (i := 4) (v := ?_) rfl (by kernel_rfl) (by kernel_rfl) (by kernel_rfl) (fun _ _ _ h => h) ?_ (by assumption) ?_
      rotate_left 1
      · first | (apply Or.inl; constructor; rfl; intro Wx hSw; obtain ⟨s1_, s2_⟩ := (hSe _).1 hSw; go_simp; try (with_reducible rfl)) | (apply Or.inr; constructor; rfl; rfl)
      try simp only [Act.put, List.getElem_toArray, List.getElem_cons_succ, List.getElem_cons_zero, List.setIfInBounds_toArray, List.set_cons_zero, List.set_cons_succ]
      refine wpAnyH_take (i := 5) (v := ?_) rfl (by kernel_rfl) (by kernel_rfl) (by kernel_rfl) (fun _ _ _ h => h) ?_ (by assumption) ?_
      rotate_left 1
      · first | (apply Or.inl; constructor; rfl; intro Wx hSw; obtain ⟨s1_, s2_⟩ := (hSe _).1 hSw; go_simp; try (with_reducible rfl)) | (apply Or.inr; constructor; rfl; rfl)
      try simp only [Act.put, List.getElem_toArray, List.getElem_cons_succ, List.getElem_cons_zero, List.setIfInBounds_toArray, List.set_cons_zero, List.set_cons_succ]
      refine wpAnyH_take (i := 6) (v := ?_) rfl (by kernel_rfl) (by kernel_rfl) (by kernel_rfl) (fun _ _ _ h => h) ?_ (by assumption) ?_
      rotate_left 1
      · first | (apply Or.inl; constructor; rfl; intro Wx hSw; obtain ⟨s1_, s2_⟩ := (hSe _).1 hSw; go_simp; try (with_reducible rfl)) | (apply Or.inr; constructor; rfl; rfl)
      try simp only [Act.put, List.getElem_toArray, List.getElem_cons_succ, List.getElem_cons_zero, List.setIfInBounds_toArray, List.set_cons_zero, List.set_cons_succ]
      refine wpAnyH_take (i := 7) (v := ?_) rfl (by kernel_rfl) (by kernel_rfl) (by kernel_rfl) (fun _ _ _ h => h) ?_ (by assumption) ?_
      rotate_left 1
      · first | (apply Or.inl; constructor; rfl; intro Wx hSw; obtain ⟨s1_, s2_⟩ := (hSe _).1 hSw; go_simp; try (with_reducible rfl)) | (apply Or.inr; constructor; rfl; rfl)
      try simp only [Act.put, List.getElem_toArray, List.getElem_cons_succ, List.getElem_cons_zero, List.setIfInBounds_toArray, List.set_cons_zero, List.set_cons_succ]
      refine wpAnyH_ready (rs := [8]) (by kernel_rfl) (by simp) ?_
      refine AllReadyH.cons rfl (fun K hK => ?_) AllReadyH.nil
      go_simp
      obtain ⟨r0, hr0⟩ : ∃ x, (readyN N d.id).1 = x := ⟨_, rfl⟩
      obtain ⟨u0, hu0⟩ : ∃ x, (readyN N d.id).2 = x := ⟨_, rfl⟩
      obtain ⟨mr, hmr⟩ : ∃ x, (marksN N d.id).1 = x := ⟨_, rfl⟩
      obtain ⟨mu, hmu⟩ : ∃ x, (marksN N d.id).2 = x := ⟨_, rfl⟩
      have HT := hid (⟨hr0, hu0, hmr, hmu⟩ : (readyN N d.id).1 = r0 ∧ (readyN N d.id).2 = u0 ∧ (marksN N d.id).1 = mr ∧ (marksN N d.id).2 = mu)
      refine (rready_any n Fn N d.id _ (HPA.out.net.keeps (K := []) (by (repeat (first | exact Keeps.refl _ wr | apply Keeps.drewN | apply Keeps.drew))) (by simp))).mono ?_
      rw [hr0, hu0]
      rintro e w2 ⟨rfl, hk2⟩
      have hkr2 : Keeps [] wr w2 := (show Keeps [] wr _ by (repeat (first | exact Keeps.refl _ wr | apply Keeps.drewN | apply Keeps.drew))).trans hk2 (by simp)
      have HK2 := hid hkr2
      refine hK.out _ _ (hSk _ hkr2) (fun hHeld => ?_)
      clear hK K hk2 hr0 hu0 hmr hmu
      refine wpAnyH_take (i := 9) (v := ?_) rfl (by kernel_rfl) (by kernel_rfl) (by kernel_rfl) (fun _ _ _ h => h) ?_ (by assumption) ?_
      rotate_left 1
      · first | (apply Or.inl; constructor; rfl; intro Wx hSw; obtain ⟨s1_, s2_⟩ := (hSe _).1 hSw; go_simp; try (with_reducible rfl)) | (apply Or.inr; constructor; rfl; rfl)
      try simp only [Act.put, List.getElem_toArray, List.getElem_cons_succ, List.getElem_cons_zero, List.setIfInBounds_toArray, List.set_cons_zero, List.set_cons_succ]
      refine wpAnyH_take (i := 10) (v := ?_) rfl (by kernel_rfl) (by kernel_rfl) (by kernel_rfl) (fun _ _ _ h => h) ?_ (by assumption) ?_
      rotate_left 1
      · first | (apply Or.inl; constructor; rfl; intro Wx hSw; obtain ⟨s1_, s2_⟩ := (hSe _).1 hSw; go_simp; try (with_reducible rfl)) | (apply Or.inr; constructor; rfl; rfl)
      try simp only [Act.put, List.getElem_toArray, List.getElem_cons_succ, List.getElem_cons_zero, List.setIfInBounds_toArray, List.set_cons_zero, List.set_cons_succ]
      refine wpAnyH_take (i := 11) (v := ?_) rfl (by kernel_rfl) (by kernel_rfl) (by kernel_rfl) (fun _ _ _ h => h) ?_ (by assumption) ?_
      rotate_left 1
      · first | (apply Or.inl; constructor; rfl; intro Wx hSw; obtain ⟨s1_, s2_⟩ := (hSe _).1 hSw; go_simp; try (with_reducible rfl)) | (apply Or.inr; constructor; rfl; rfl)
      try simp only [Act.put, List.getElem_toArray, List.getElem_cons_succ, List.getElem_cons_zero, List.setIfInBounds_toArray, List.set_cons_zero, List.set_cons_succ]
      refine wpAnyH_take (i := 12) (v := ?_) rfl (by kernel_rfl) (by kernel_rfl) (by kernel_rfl) (fun _ _ _ h => h) ?_ (by assumption) ?_
      rotate_left 1
      · first | (apply Or.inl; constructor; rfl; intro Wx hSw; obtain ⟨s1_, s2_⟩ := (hSe _).1 hSw; go_simp; try (with_reducible rfl)) | (apply Or.inr; constructor; rfl; rfl)
      try simp only [Act.put, List.getElem_toArray, List.getElem_cons_succ, List.getElem_cons_zero, List.setIfInBounds_toArray, List.set_cons_zero, List.set_cons_succ]
      refine wpAnyH_take (i := 13) (v := ?_) rfl (by kernel_rfl) (by kernel_rfl) (by kernel_rfl) (fun _ _ _ h => h) ?_ (by assumption) ?_
      rotate_left 1
      · first | (apply Or.inl; constructor; rfl; intro Wx hSw; obtain ⟨s1_, s2_⟩ := (hSe _).1 hSw; go_simp; try (with_reducible rfl)) | (apply Or.inr; constructor; rfl; rfl)
      try simp only [Act.put, List.getElem_toArray, List.getElem_cons_succ, List.getElem_cons_zero, List.setIfInBounds_toArray, List.set_cons_zero, List.set_cons_succ]
      refine wpAnyH_done (by kernel_rfl) ?_ _
      go_wp2_with fail
      refine wp_region_held_drew (S := S) (by kernel_rfl) (hSk _ hkr2.drew) (fun hHeld => ?_)
      refine wpAnyH_take (i := 0) (v := ?_) rfl (by kernel_rfl) (by kernel_rfl) (by kernel_rfl) (fun _ _ _ h => h) ?_ (by assumption) ?_
      rotate_left 1
      · first | (apply Or.inl; constructor; rfl; intro Wx hSw; obtain ⟨s1_, s2_⟩ := (hSe _).1 hSw; go_simp; try (with_reducible rfl)) | (apply Or.inr; constructor; rfl; rfl)
      try simp only [Act.put, List.getElem_toArray, List.getElem_cons_succ, List.getElem_cons_zero, List.setIfInBounds_toArray, List.set_cons_zero, List.set_cons_succ]
      refine wpAnyH_take (i := 1) (v := ?_) rfl (by kernel_rfl) (by kernel_rfl) (by kernel_rfl) (fun _ _ _ h => h) ?_ (by assumption) ?_
      rotate_left 1
      · first | (apply Or.inl; constructor; rfl; intro Wx hSw; obtain ⟨s1_, s2_⟩ := (hSe _).1 hSw; go_simp; try (with_reducible rfl)) | (apply Or.inr; constructor; rfl; rfl)
      try simp only [Act.put, List.getElem_toArray, List.getElem_cons_succ, List.getElem_cons_zero, List.setIfInBounds_toArray, List.set_cons_zero, List.set_cons_succ]
      refine wpAnyH_take (i := 2) (v := ?_) rfl (by kernel_rfl) (by kernel_rfl) (by kernel_rfl) (fun _ _ _ h => h) ?_ (by assumption) ?_
      rotate_left 1
      · first | (apply Or.inl; constructor; rfl; intro Wx hSw; obtain ⟨s1_, s2_⟩ := (hSe _).1 hSw; go_simp; try (with_reducible rfl)) | (apply Or.inr; constructor; rfl; rfl)
      try simp only [Act.put, List.getElem_toArray, List.getElem_cons_succ, List.getElem_cons_zero, List.setIfInBounds_toArray, List.set_cons_zero, List.set_cons_succ]
      refine wpAnyH_take (i := 3) (v := ?_) rfl (by kernel_rfl) (by kernel_rfl) (by kernel_rfl) (fun _ _ _ h => h) ?_ (by assumption) ?_
      rotate_left 1
      · first | (apply Or.inl; constructor; rfl; intro Wx hSw; obtain ⟨s1_, s2_⟩ := (hSe _).1 hSw; go_simp; try (with_reducible rfl)) | (apply Or.inr; constructor; rfl; rfl)
      try simp only [Act.put, List.getElem_toArray, List.getElem_cons_succ, List.getElem_cons_zero, List.setIfInBounds_toArray, List.set_cons_zero, List.set_cons_succ]
      refine wpAnyH_take (i := 4) (v := ?_) rfl (by kernel_rfl) (by kernel_rfl) (by kernel_rfl) (fun _ _ _ h => h) ?_ (by assumption) ?_
      rotate_left 1
      · first | (apply Or.inl; constructor; rfl; intro Wx hSw; obtain ⟨s1_, s2_⟩ := (hSe _).1 hSw; go_simp; try (with_reducible rfl)) | (apply Or.inr; constructor; rfl; rfl)
      try simp only [Act.put, List.getElem_toArray, List.getElem_cons_succ, List.getElem_cons_zero, List.setIfInBounds_toArray, List.set_cons_zero, List.set_cons_succ]
      refine wpAnyH_take (i := 5) (v := ?_) rfl (by kernel_rfl) (by kernel_rfl) (by kernel_rfl) (fun _ _ _ h => h) ?_ (by assumption) ?_
      rotate_left 1
      · first | (apply Or.inl; constructor; rfl; intro Wx hSw; obtain ⟨s1_, s2_⟩ := (hSe _).1 hSw; go_simp; try (with_reducible rfl)) | (apply Or.inr; constructor; rfl; rfl)
      try simp only [Act.put, List.getElem_toArray, List.getElem_cons_succ, List.getElem_cons_zero, List.setIfInBounds_toArray, List.set_cons_zero, List.set_cons_succ]
      refine wpAnyH_take (i := 6) (v := ?_) rfl (by kernel_rfl) (by kernel_rfl) (by kernel_rfl) (fun _ _ _ h => h) ?_ (by assumption) ?_
      rotate_left 1
      · first | (apply Or.inl; constructor; rfl; intro Wx hSw; obtain ⟨s1_, s2_⟩ := (hSe _).1 hSw; go_simp; try (with_reducible rfl)) | (apply Or.inr; constructor; rfl; rfl)
      try simp only [Act.put, List.getElem_toArray, List.getElem_cons_succ, List.getElem_cons_zero, List.setIfInBounds_toArray, List.set_cons_zero, List.set_cons_succ]
      refine wpAnyH_take (i := 7) (v := ?_) rfl (by kernel_rfl) (by kernel_rfl) (by kernel_rfl) (fun _ _ _ h => h) ?_ (by assumption) ?_
      rotate_left 1
      · first | (apply Or.inl; constructor; rfl; intro Wx hSw; obtain ⟨s1_, s2_⟩ := (hSe _).1 hSw; go_simp; try (with_reducible rfl)) | (apply Or.inr; constructor; rfl; rfl)
      try simp only [Act.put, List.getElem_toArray, List.getElem_cons_succ, List.getElem_cons_zero, List.setIfInBounds_toArray, List.set_cons_zero, List.set_cons_succ]
      refine wpAnyH_ready (rs := [8]) (by kernel_rfl) (by simp) ?_
      refine AllReadyH.cons rfl (fun K hK => ?_) AllReadyH.nil
      go_simp
      refine (rmarks_any n Fn N d.id _ (HPA.out.net.keeps hkr2.drew (by simp))).mono ?_
      rw [HT.out.2.2.1, HT.out.2.2.2]
      rintro e w3 ⟨rfl, hk3⟩
      have hkr3 : Keeps [] wr w3 := hkr2.drew.trans hk3 (by simp)
      refine hK.out _ _ (hSk _ hkr3) (fun hHeld => ?_)
      clear hK K hk3 hkr2 HK2
      refine wpAnyH_take (i := 9) (v := ?_) rfl (by kernel_rfl) (by kernel_rfl) (by kernel_rfl) (fun _ _ _ h => h) ?_ (by assumption) ?_
      rotate_left 1
      · first | (apply Or.inl; constructor; rfl; intro Wx hSw; obtain ⟨s1_, s2_⟩ := (hSe _).1 hSw; go_simp; try (with_reducible rfl)) | (apply Or.inr; constructor; rfl; rfl)
      try simp only [Act.put, List.getElem_toArray, List.getElem_cons_succ, List.getElem_cons_zero, List.setIfInBounds_toArray, List.set_cons_zero, List.set_cons_succ]
      refine wpAnyH_take (i := 10) (v := ?_) rfl (by kernel_rfl) (by kernel_rfl) (by kernel_rfl) (fun _ _ _ h => h) ?_ (by assumption) ?_
      rotate_left 1
      · first | (apply Or.inl; constructor; rfl; intro Wx hSw; obtain ⟨s1_, s2_⟩ := (hSe _).1 hSw; go_simp; try (with_reducible rfl)) | (apply Or.inr; constructor; rfl; rfl)
      try simp only [Act.put, List.getElem_toArray, List.getElem_cons_succ, List.getElem_cons_zero, List.setIfInBounds_toArray, List.set_cons_zero, List.set_cons_succ]
      refine wpAnyH_take (i := 11) (v := ?_) rfl (by kernel_rfl) (by kernel_rfl) (by kernel_rfl) (fun _ _ _ h => h) ?_ (by assumption) ?_
      rotate_left 1
      · first | (apply Or.inl; constructor; rfl; intro Wx hSw; obtain ⟨s1_, s2_⟩ := (hSe _).1 hSw; go_simp; try (with_reducible rfl)) | (apply Or.inr; constructor; rfl; rfl)
      try simp only [Act.put, List.getElem_toArray, List.getElem_cons_succ, List.getElem_cons_zero, List.setIfInBounds_toArray, List.set_cons_zero, List.set_cons_succ]
      refine wpAnyH_take (i := 12) (v := ?_) rfl (by kernel_rfl) (by kernel_rfl) (by kernel_rfl) (fun _ _ _ h => h) ?_ (by assumption) ?_
      rotate_left 1
      · first | (apply Or.inl; constructor; rfl; intro Wx hSw; obtain ⟨s1_, s2_⟩ := (hSe _).1 hSw; go_simp; try (with_reducible rfl)) | (apply Or.inr; constructor; rfl; rfl)
      try simp only [Act.put, List.getElem_toArray, List.getElem_cons_succ, List.getElem_cons_zero, List.setIfInBounds_toArray, List.set_cons_zero, List.set_cons_succ]
      refine wpAnyH_take (i := 13) (v := ?_) rfl (by kernel_rfl) (by kernel_rfl) (by kernel_rfl) (fun _ _ _ h => h) ?_ (by assumption) ?_
      rotate_left 1
      · first | (apply Or.inl; constructor; rfl; intro Wx hSw; obtain ⟨s1_, s2_⟩ := (hSe _).1 hSw; go_simp; try (with_reducible rfl)) | (apply Or.inr; constructor; rfl; rfl)
      try simp only [Act.put, List.getElem_toArray, List.getElem_cons_succ, List.getElem_cons_zero, List.setIfInBounds_toArray, List.set_cons_zero, List.set_cons_succ]
      refine wpAnyH_done (by kernel_rfl) ?_ _
      clear hSk hSe hHeld
      have HK3 := hid hkr3
      have hb3 := HBP.out.keeps hkr3 (by simp)
      obtain ⟨rd, hrd⟩ : ∃ x, d.rd = x := ⟨_, rfl⟩
      obtain ⟨wt, hwt⟩ : ∃ x, d.wr = x := ⟨_, rfl⟩
      obtain ⟨ed, hed⟩ : ∃ x, d.ed = x := ⟨_, rfl⟩
      obtain ⟨tr, htr⟩ : ∃ x, d.tr = x := ⟨_, rfl⟩
      obtain ⟨tm, htm⟩ : ∃ x, d.tm = x := ⟨_, rfl⟩
      obtain ⟨id, hid0⟩ : ∃ x, d.id = x := ⟨_, rfl⟩
      have HD := hid (⟨hid0, hrd, hwt, hed, htr, htm⟩ : d.id = id ∧ d.rd = rd ∧ d.wr = wt ∧ d.ed = ed ∧ d.tr = tr ∧ d.tm = tm)
      have hwc : wcells d = #[.int .i64 id, .bool rd, .bool wt, .bool ed, .int .i64 tr, .int .i64 tm] := by simp [wcells, hid0, hrd, hwt, hed, htr, htm]
      rw [hwc] at hb3
      have HB3 := hid hb3
      have x1 := hb3.cell 1
      have x2 := hb3.cell 2
      have x3 := hb3.cell 3
      have x4 := hb3.cell 4
      have x5 := hb3.cell 5
      have y4 := hb3.frozen 4
      simp at x1 x2 x3 x4 x5
      obtain ⟨rr, hrr⟩ : ∃ x, (r0 && rd && (!ed || decide (tr < mr))) = x := ⟨_, rfl⟩
      obtain ⟨uu, huu⟩ : ∃ x, (u0 && wt && (!ed || decide (tm < mu))) = x := ⟨_, rfl⟩
      have HRU := hid (And.intro hrr huu)
      clear hrd hwt hed htr htm hid0 hwc hb3 hkr3 c0 e0 e2 hlk hrr huu
      go_upto_region 9 with (fail)
      go_cut [9] (fun x wx => x = .bool rr ∧ w3 = wx)
      case first =>
        have hrr := HRU.out.1
        clear HRU HD HT
        cases r0 <;> cases rd <;> cases ed
        all_goals
          go_wp2_with fail
          go_meet
          case rel => exact ⟨by rw [← hrr]; rfl, rfl⟩
      case rest =>
      obtain ⟨rfl, rfl⟩ := hcut
      go_upto_region 10 with (fail)
      go_cut [10] (fun x wx => x = .bool uu ∧ w3 = wx)
      case first =>
        have huu := HRU.out.2
        clear HRU HD HT
        cases u0 <;> cases wt <;> cases ed
        all_goals
          go_wp2_with fail
          go_meet
          case rel => exact ⟨by rw [← huu]; rfl, rfl⟩
      case rest =>
      obtain ⟨rfl, rfl⟩ := hcut
      clear x1 x2 x3
      go_upto_if 105 with (fail)
      go_cut [] (fun wx => Keeps [p] w3 wx ∧ Blk wx p 173 #[.int .i64 id, .bool rd, .bool wt, .bool ed, .int .i64 (if rr = true then mr else tr), .int .i64 tm])
      case first =>
        clear HRU HD HT
        cases rr
        focus
          go_wp2_with fail
          go_meet
          case rel => exact ⟨Keeps.refl _ _, by simpa using HB3.out⟩
        focus
          go_wp2_with fail
          go_meet
          case rel => exact ⟨(Keeps.refl [p] w3).setCell (.inl (by simp)) _, pblk_eq (HB3.out.set_ 4 (.int .i64 mr)) (by simp)⟩
      case rest =>
      obtain ⟨hk4, hb4⟩ := hcut
      obtain ⟨w4, rfl⟩ : ∃ x, x = wc := ⟨wc, rfl⟩
      obtain ⟨tr2, htr2⟩ : ∃ x, (if rr = true then mr else tr) = x := ⟨_, rfl⟩
      rw [htr2] at hb4
      have HK4 := hid hk4
      have HB4 := hid hb4
      have HTR := hid htr2
      have x5 := hb4.cell 5
      have y5 := hb4.frozen 5
      simp at x5
      clear hk4 hb4 htr2 x4 y4
      go_upto_if 110 with (fail)
      go_cut [] (fun wx => Keeps [p] w4 wx ∧ Blk wx p 173 #[.int .i64 id, .bool rd, .bool wt, .bool ed, .int .i64 tr2, .int .i64 (if uu = true then mu else tm)])
      case first =>
        clear HRU HD HT HTR
        cases uu
        focus
          go_wp2_with fail
          go_meet
          case rel => exact ⟨Keeps.refl _ _, by simpa using HB4.out⟩
        focus
          go_wp2_with fail
          go_meet
          case rel => exact ⟨(Keeps.refl [p] w4).setCell (.inl (by simp)) _, pblk_eq (HB4.out.set_ 5 (.int .i64 mu)) (by simp)⟩
      case rest =>
      obtain ⟨hk5, hb5⟩ := hcut
      obtain ⟨w5, rfl⟩ : ∃ x, x = wc := ⟨wc, rfl⟩
      have hk35 : Keeps [p] wr w5 := ((HK3.out.mono (by simp)).trans HK4.out (by simp +contextual)).trans hk5 (by simp +contextual)
      have hid9 := HD.out.1
      have htold : toldR N d = (rr, uu, { d with tr := tr2, tm := if uu = true then mu else tm }) := by
        obtain ⟨g1, g2, g3, g4, g5, g6⟩ := HD.out
        obtain ⟨t1, t2, t3, t4⟩ := HT.out
        obtain ⟨r1, r2⟩ := HRU.out
        unfold toldR
        rw [t1, t2, t3, t4, g2, g3, g4, g5, g6, r1, r2, HTR.out]
      have hbw : Blk w5 p 173 (wcells (toldR N d).2.2) := by
        rw [htold]
        obtain ⟨g1, g2, g3, g4, g5, g6⟩ := HD.out
        simpa [wcells, g1, g2, g3, g4] using hb5
      have hev : evAtR N D ((kk : Int), hg) = if (rr || uu) = true then [(((kk : Int), hg), id, rr, uu)] else [] := by
        unfold evAtR evOfR
        simp only [Int.toNat_natCast]
        rw [HX.out.2.2.2.2.1, htold, hid9]
      have hp5 : RPAt w5 xb n s m Fn Fs W N L c f (stD N hs D (k + 1)) := by
        rw [← stD_step HX.out.1]
        refine HPA.out.upd HX.out.2.2.1 ?_ hk35 ?_
        · rw [stD_out HX.out.1 (by rw [← HHS.out]; exact allFrom_nodup L 0)]
          rfl
        · rw [HX.out.2.2.2.2.1]
          exact hbw
      have hr5 : Row w5 95 5 (.slice LA q.length lc) q.length (evsV q) := HROW.out.keeps hk35 (fun j hj hx => by
        have h1 := HOB.out j hj
        have h2 := HX.out.2.2.2.2.2.1
        have h3 := HK1.out.size
        simp at hx
        omega)
      have hkk5 : Keeps W w1 w5 := HKP.out.trans hk35 (fun g hg => by simp at hg; subst hg; exact .inl HX.out.2.2.2.1)
      have hst : (hs.take (k + 1)).flatMap (evAtR N D) = q ++ evAtR N D ((kk : Int), hg) := by
        rw [List.take_add_one, HX.out.1, Option.toList, List.flatMap_append, HQ.out]
        simp
      have z0 := cell_keep hk35 (by simpa using hb1p) d0
      have z1 := cell_keep hk35 (by simpa using hb1p) d1
      have zid := hb5.cell 0
      simp at zid
      obtain ⟨z, hz⟩ : ∃ z, (rr || uu) = z := ⟨_, rfl⟩
      rw [hz] at hev
      rw [hev] at hst
      have HZ := hid hz
      have HST := hid hst
      have HP5 := hid hp5
      have HR5 := hid hr5
      have HKK5 := hid hkk5
      clear hz hst hp5 hr5 hkk5 hev hbw htold hid9 hk35 hk5 hb5 d0 d1 HB3 HB4 HTR HK4 HK3 HRU HT x5 y5
      obtain ⟨S2, hSe⟩ : ∃ S : World → Prop, ∀ w', S w' ↔ (w'.cell? ⟨p, 0, none⟩ = some (.int .i64 id) ∧ w'.cell? ⟨b1, o1 + k * 2, none⟩ = some (.int .i64 kk) ∧ w'.cell? ⟨b1, o1 + k * 2 + 1, none⟩ = some (.int .i64 hg)) := ⟨_, fun _ => Iff.rfl⟩
      go_upto_region 15 with (fail)
      go_cut [118] (fun y wx => y = .bool z ∧ w5 = wx)
      case first =>
        clear HST HX HD HP5 HR5 HKK5
        cases rr <;> cases uu
        all_goals
          go_wp2_with fail
          go_meet
          case rel => exact ⟨by rw [← HZ.out]; rfl, rfl⟩
      case rest =>
      obtain ⟨rfl, rfl⟩ := hcut
      clear HZ
      cases z
      focus
        go_wp2_with fail
        go_roundw
        case rel => exact ⟨k + 1, q, by omega, by go_num, by rw [HST.out]; simp, by omega, HR5.out, HOB.out, HP5.out, HKK5.out⟩
        case measure => simp [intOf] <;> omega
      focus
        go_wp2_with fail
        have hSw1 : S2 w5.drew := (hSe _).2 ⟨zid, z0, z1⟩
        refine wp_region_held_drew (S := S2) (by kernel_rfl) hSw1 (fun hHeld => ?_)
        refine wpAnyH_take (i := 0) (v := ?_) rfl (by kernel_rfl) (by kernel_rfl) (by kernel_rfl) (fun _ _ _ h => h) ?_ (by assumption) ?_
        rotate_left 1
        · first | (apply Or.inl; constructor; rfl; intro Wx hSw; obtain ⟨s1_, s2_, s3_⟩ := (hSe _).1 hSw; go_simp; try (with_reducible rfl)) | (apply Or.inr; constructor; rfl; rfl)
        try simp only [Act.put, List.getElem_toArray, List.getElem_cons_succ, List.getElem_cons_zero, List.setIfInBounds_toArray, List.set_cons_zero, List.set_cons_succ]
        refine wpAnyH_take (i := 1) (v := ?_) rfl (by kernel_rfl) (by kernel_rfl) (by kernel_rfl) (fun _ _ _ h => h) ?_ (by assumption) ?_
        rotate_left 1
        · first | (apply Or.inl; constructor; rfl; intro Wx hSw; obtain ⟨s1_, s2_, s3_⟩ := (hSe _).1 hSw; go_simp; try (with_reducible rfl)) | (apply Or.inr; constructor; rfl; rfl)
        try simp only [Act.put, List.getElem_toArray, List.getElem_cons_succ, List.getElem_cons_zero, List.setIfInBounds_toArray, List.set_cons_zero, List.set_cons_succ]
        refine wpAnyH_take (i := 2) (v := ?_) rfl (by kernel_rfl) (by kernel_rfl) (by kernel_rfl) (fun _ _ _ h => h) ?_ (by assumption) ?_
        rotate_left 1
        · first | (apply Or.inl; constructor; rfl; intro Wx hSw; obtain ⟨s1_, s2_, s3_⟩ := (hSe _).1 hSw; go_simp; try (with_reducible rfl)) | (apply Or.inr; constructor; rfl; rfl)
        try simp only [Act.put, List.getElem_toArray, List.getElem_cons_succ, List.getElem_cons_zero, List.setIfInBounds_toArray, List.set_cons_zero, List.set_cons_succ]
        refine wpAnyH_take (i := 3) (v := ?_) rfl (by kernel_rfl) (by kernel_rfl) (by kernel_rfl) (fun _ _ _ h => h) ?_ (by assumption) ?_
        rotate_left 1
        · first | (apply Or.inl; constructor; rfl; intro Wx hSw; obtain ⟨s1_, s2_, s3_⟩ := (hSe _).1 hSw; go_simp; try (with_reducible rfl)) | (apply Or.inr; constructor; rfl; rfl)
        try simp only [Act.put, List.getElem_toArray, List.getElem_cons_succ, List.getElem_cons_zero, List.setIfInBounds_toArray, List.set_cons_zero, List.set_cons_succ]
        refine wpAnyH_take (i := 4) (v := ?_) rfl (by kernel_rfl) (by kernel_rfl) (by kernel_rfl) (fun _ _ _ h => h) ?_ (by assumption) ?_
        rotate_left 1
        · first | (apply Or.inl; constructor; rfl; intro Wx hSw; obtain ⟨s1_, s2_, s3_⟩ := (hSe _).1 hSw; go_simp; try (with_reducible rfl)) | (apply Or.inr; constructor; rfl; rfl)
        try simp only [Act.put, List.getElem_toArray, List.getElem_cons_succ, List.getElem_cons_zero, List.setIfInBounds_toArray, List.set_cons_zero, List.set_cons_succ]
        refine wpAnyH_take (i := 5) (v := ?_) rfl (by kernel_rfl) (by kernel_rfl) (by kernel_rfl) (fun _ _ _ h => h) ?_ (by assumption) ?_
        rotate_left 1
        · first | (apply Or.inl; constructor; rfl; intro Wx hSw; obtain ⟨s1_, s2_, s3_⟩ := (hSe _).1 hSw; go_simp; try (with_reducible rfl)) | (apply Or.inr; constructor; rfl; rfl)
        try simp only [Act.put, List.getElem_toArray, List.getElem_cons_succ, List.getElem_cons_zero, List.setIfInBounds_toArray, List.set_cons_zero, List.set_cons_succ]
        refine wpAnyH_take (i := 6) (v := ?_) rfl (by kernel_rfl) (by kernel_rfl) (by kernel_rfl) (fun _ _ _ h => h) ?_ (by assumption) ?_
        rotate_left 1
        · first | (apply Or.inl; constructor; rfl; intro Wx hSw; obtain ⟨s1_, s2_, s3_⟩ := (hSe _).1 hSw; go_simp; try (with_reducible rfl)) | (apply Or.inr; constructor; rfl; rfl)
        try simp only [Act.put, List.getElem_toArray, List.getElem_cons_succ, List.getElem_cons_zero, List.setIfInBounds_toArray, List.set_cons_zero, List.set_cons_succ]
        refine wpAnyH_take (i := 7) (v := ?_) rfl (by kernel_rfl) (by kernel_rfl) (by kernel_rfl) (fun _ _ _ h => h) ?_ (by assumption) ?_
        rotate_left 1
        · first | (apply Or.inl; constructor; rfl; intro Wx hSw; obtain ⟨s1_, s2_, s3_⟩ := (hSe _).1 hSw; go_simp; try (with_reducible rfl)) | (apply Or.inr; constructor; rfl; rfl)
        try simp only [Act.put, List.getElem_toArray, List.getElem_cons_succ, List.getElem_cons_zero, List.setIfInBounds_toArray, List.set_cons_zero, List.set_cons_succ]
        refine wpAnyH_take (i := 8) (v := ?_) rfl (by kernel_rfl) (by kernel_rfl) (by kernel_rfl) (fun _ _ _ h => h) ?_ (by assumption) ?_
        rotate_left 1
        · first | (apply Or.inl; constructor; rfl; intro Wx hSw; obtain ⟨s1_, s2_, s3_⟩ := (hSe _).1 hSw; go_simp; try (with_reducible rfl)) | (apply Or.inr; constructor; rfl; rfl)
        try simp only [Act.put, List.getElem_toArray, List.getElem_cons_succ, List.getElem_cons_zero, List.setIfInBounds_toArray, List.set_cons_zero, List.set_cons_succ]
        refine wpAnyH_take (i := 9) (v := ?_) rfl (by kernel_rfl) (by kernel_rfl) (by kernel_rfl) (fun _ _ _ h => h) ?_ (by assumption) ?_
        rotate_left 1
        · first | (apply Or.inl; constructor; rfl; intro Wx hSw; obtain ⟨s1_, s2_, s3_⟩ := (hSe _).1 hSw; go_simp; try (with_reducible rfl)) | (apply Or.inr; constructor; rfl; rfl)
        try simp only [Act.put, List.getElem_toArray, List.getElem_cons_succ, List.getElem_cons_zero, List.setIfInBounds_toArray, List.set_cons_zero, List.set_cons_succ]
        refine wpAnyH_take (i := 10) (v := ?_) rfl (by kernel_rfl) (by kernel_rfl) (by kernel_rfl) (fun _ _ _ h => h) ?_ (by assumption) ?_
        rotate_left 1
        · first | (apply Or.inl; constructor; rfl; intro Wx hSw; obtain ⟨s1_, s2_, s3_⟩ := (hSe _).1 hSw; go_simp; try (with_reducible rfl)) | (apply Or.inr; constructor; rfl; rfl)
        try simp only [Act.put, List.getElem_toArray, List.getElem_cons_succ, List.getElem_cons_zero, List.setIfInBounds_toArray, List.set_cons_zero, List.set_cons_succ]
        refine wpAnyH_take (i := 11) (v := ?_) rfl (by kernel_rfl) (by kernel_rfl) (by kernel_rfl) (fun _ _ _ h => h) ?_ (by assumption) ?_
        rotate_left 1
        · first | (apply Or.inl; constructor; rfl; intro Wx hSw; obtain ⟨s1_, s2_, s3_⟩ := (hSe _).1 hSw; go_simp; try (with_reducible rfl)) | (apply Or.inr; constructor; rfl; rfl)
        try simp only [Act.put, List.getElem_toArray, List.getElem_cons_succ, List.getElem_cons_zero, List.setIfInBounds_toArray, List.set_cons_zero, List.set_cons_succ]
        refine wpAnyH_ready (rs := [12]) (by kernel_rfl) (by simp) ?_
        refine AllReadyH.cons rfl (fun K hK => ?_) AllReadyH.nil
        go_simp
        refine hK.out _ _ ((hSe _).2 ⟨cell_keep (((Keeps.refl [] w5).alloc _).drew) (by simp) zid, cell_keep (((Keeps.refl [] w5).alloc _).drew) (by simp) z0, cell_keep (((Keeps.refl [] w5).alloc _).drew) (by simp) z1⟩) (fun hHeld => ?_)
        clear hK K
        try simp only [Act.put, List.getElem_toArray, List.getElem_cons_succ, List.getElem_cons_zero, List.setIfInBounds_toArray, List.set_cons_zero, List.set_cons_succ]
        refine wpAnyH_ready (rs := [13]) (by kernel_rfl) (by simp) ?_
        refine AllReadyH.cons rfl (fun K hK => ?_) AllReadyH.nil
        refine step_append_row _ rfl (.tmp 119) (.tmp 131) _ rfl 95 i1 _ 5 32 Try.underlying88 hi1 hy0 hy1 hy2 rfl (by omega) (.slice LA q.length lc) q.length _ rfl ((HR5.out.alloc _).drew) (some ⟨w5.heap.size, 0, none⟩) 1 1 [_, _, _, _, _] rfl (reads_blk5 (Blk.drew (Blk.newAt (by simp)))) (by simp [Value.oneCell']) (by simp only [maxLen]; omega) (by omega) ?_
        intro v2 w6 hv2 hk2 ho2
        have HV2 := hid hv2
        have HK2 := hid hk2
        have HO2 := hid ho2
        clear hv2 hk2 ho2
        have hpo : p ∉ (Value.slice LA q.length lc).ownBlock.toList := fun hx => by
          have h1 := HOB.out p (by simpa using hx)
          have h2 := HX.out.2.2.2.2.2.1
          have h3 := HK1.out.size
          omega
        have hbo : b1 ∉ (Value.slice LA q.length lc).ownBlock.toList := fun hx => by
          have h1 := HOB.out b1 (by simpa using hx)
          have h2 := HB1L.out
          omega
        refine hK.out _ _ ((hSe _).2 ⟨cell_keep HK2.out hpo (cell_keep (((Keeps.refl [] w5).alloc _).drew) (by simp) zid), cell_keep HK2.out hbo (cell_keep (((Keeps.refl [] w5).alloc _).drew) (by simp) z0), cell_keep HK2.out hbo (cell_keep (((Keeps.refl [] w5).alloc _).drew) (by simp) z1)⟩) (fun hHeld => ?_)
        clear hK K
        try simp only [Act.put, List.getElem_toArray, List.getElem_cons_succ, List.getElem_cons_zero, List.setIfInBounds_toArray, List.set_cons_zero, List.set_cons_succ]
        refine wpAnyH_take (i := 14) (v := ?_) rfl (by kernel_rfl) (by kernel_rfl) (by kernel_rfl) (fun _ _ _ h => h) ?_ (by assumption) ?_
        rotate_left 1
        · first | (apply Or.inl; constructor; rfl; intro Wx hSw; obtain ⟨s1_, s2_, s3_⟩ := (hSe _).1 hSw; go_simp; try (with_reducible rfl)) | (apply Or.inr; constructor; rfl; rfl)
        try simp only [Act.put, List.getElem_toArray, List.getElem_cons_succ, List.getElem_cons_zero, List.setIfInBounds_toArray, List.set_cons_zero, List.set_cons_succ]
        refine wpAnyH_done (by kernel_rfl) ?_ _
        go_wp2_with fail
        go_roundw
        case rel =>
          have hv := HV2.out
          have hge : ∀ g ∈ (Value.slice LA q.length lc).ownBlock.toList, w1.heap.size ≤ g := fun g hg => HOB.out g (by simpa using hg)
          have hst2 : (hs.take (k + 1)).flatMap (evAtR N D) = q ++ [(((kk : Int), hg), id, rr, uu)] := by have h := HST.out; simp only [if_true] at h; exact h
          refine ⟨k + 1, q ++ [(((kk : Int), hg), id, rr, uu)], by omega, by go_num, hst2, by simp; omega, ?_, fun j hj => ?_, ?_, ?_⟩
          · rw [evsV_append]
            simpa [evsV, evV] using hv
          · rcases HO2.out j hj with h | h
            · exact HOB.out j h
            · have h7 := HKK5.out.size
              simp at h
              omega
          · refine (HP5.out.next (((Keeps.refl [] w5).alloc _).drew)).keeps HK2.out (fun g hg => ?_)
            have hgg := hge g hg
            obtain ⟨a1, a2, a3⟩ := H.out.apart
            have h3 := HK1.out.size
            refine ⟨by omega, fun hx => by have := H.out.net.flt g hx; omega, fun hx => by have := H.out.slab.flt g hx; omega, by omega, fun hx => by have := (H.out.wl g hx).1; omega⟩
          · exact (HKK5.out.trans (((Keeps.refl [] w5).alloc _).drew) (by simp)).trans HK2.out (fun g hg => .inr (hge g hg))
        case measure => simp [intOf] <;> omega
    · have hkl : k = hs.length := by omega
      subst hkl
      have HQE : Hid (evsR N L D = q) := hid (by have := HQ.out; rw [List.take_length] at this; unfold evsR; rw [HHS.out]; exact this)
      have HWK : Hid (Keeps W w wr) := hid ((HK1.out.mono (by simp)).trans HKP.out (by simp +contextual))
      have hsl := HOB.out
      have hlt3 := HROW.out.lt
      have hq40 : q.length ≤ 1099511627776 := by omega
      have hz1 := HK1.out.size
      have hz2 := HKP.out.size
      have HPW : Hid (CellsIn wr [] (.slice PA ps.length pcap) (ps.map (.int .i64))) := hid (by
        obtain ⟨A, c, hv, g1, g2, g3⟩ := HPV.out
        refine ⟨A, c, hv, g1, g2, fun hp => ?_⟩
        obtain ⟨b, o, hA, hb, hcc⟩ := g3 hp
        refine ⟨b, o, hA, by simp, fun j u hu => cell_keep HWK.out (fun hx => hb ?_) (hcc j u hu)⟩
        simp only [List.mem_cons, List.mem_append]
        exact .inr (.inr (.inr (.inr hx))))
      clear HQ HKP HV1 HO1 hc1 hc2 hsl hlt3
      obtain ⟨T, hT⟩ : ∃ T, pickE ps q = T := ⟨_, rfl⟩
      have HTT := hid hT
      clear hT
      go_wp2
      obtain ⟨W0, rfl⟩ : ∃ x, x = wr := ⟨wr, rfl⟩
      go_loopw [5, 13, 14, 15] (fun l o kv _ wx => ∃ (r out : List Ev), kv = .int .i64 out.length ∧ out ++ pickE (ps.drop out.length) r = T ∧ out.length + r.length = q.length ∧ Row wx 95 5 l r.length (evsV r) ∧ Row wx 95 5 o out.length (evsV out) ∧ (∀ j, l.ownBlock = some j → w1.heap.size ≤ j) ∧ (∀ j, o.ownBlock = some j → W0.heap.size ≤ j) ∧ (∀ j, l.ownBlock = some j → o.ownBlock ≠ some j) ∧ Keeps [] W0 wx) (fun l _ _ _ _ => sliceLen l)
      case atStart => exact ⟨q, [], rfl, by simpa using HTT.out, by simp, HROW.out, Row.nil _ _ _, HOB.out, by simp [Value.ownBlock], by simp [Value.ownBlock], Keeps.refl _ _⟩
      case round =>
        obtain ⟨r, out, rfl, hpick, hlen, hrr, hro, hl1, ho1, hlo, hkx⟩ := hrel
        have HPK := hid hpick
        have HRR := hid hrr
        have HRO := hid hro
        have HL1 := hid hl1
        have HO1 := hid ho1
        have HLO := hid hlo
        have HKX := hid hkx
        obtain ⟨RA, rcp, rfl, hr1, hr2, -⟩ := hrr.form
        obtain ⟨OA, oc, rfl, -⟩ := hro.form
        clear hpick hrr hro hl1 ho1 hlo hkx
        by_cases hr0 : 0 < r.length
        · have hri : (0 : Int) < r.length := by omega
          go_upto_if 141 with (fail)
          go_cut [15] (fun i wx => i = .int .i64 (pickI (ps.drop out.length) r.length : Nat) ∧ wr = wx)
          case first =>
            by_cases hpo : out.length < ps.length
            · obtain ⟨x, hx⟩ : ∃ x, ps[out.length]? = some x := ⟨ps[out.length], List.getElem?_eq_getElem hpo⟩
              have hdr : ps.drop out.length = x :: ps.drop (out.length + 1) := by
                rw [List.drop_eq_getElem_cons hpo]
                congr 1
                rw [List.getElem?_eq_getElem hpo] at hx
                injection hx
              have HDR := hid hdr
              obtain ⟨b, o, rfl, -, hcc⟩ := (HPW.out.keeps HKX.out (by simp)).at_ (by simp; omega)
              have hx0 := hcc out.length (.int .i64 x) (by simp [hx])
              have hrz : ((r.length : Nat) : Int) ≠ 0 := by omega
              have hpi : ((out.length : Nat) : Int) < ps.length := by omega
              obtain ⟨M, hM⟩ : ∃ M, max 0 x = M := ⟨_, rfl⟩
              have hM0 : 0 ≤ M := by omega
              have hmx : ∀ ts t wx, (Builtin.max_ ts t #[.int .i64 0, .int .i64 x]).run Try.prog wx = .ok (.int .i64 M) wx := fun ts t wx => by
                rw [run_max_int2]
                congr 2
                split <;> omega
              clear hcc hdr hx
              go_wp2_with fail
              go_meet
              case rel =>
                refine ⟨?_, rfl⟩
                rw [HDR.out]
                congr 1
                show _ = (((max 0 x).toNat % r.length : Nat) : Int)
                rw [Int.natCast_emod, hM, Int.toNat_of_nonneg hM0]
            · have hdr : ps.drop out.length = [] := List.drop_eq_nil_of_le (by omega)
              have HDR := hid hdr
              clear hdr
              have hpi : ¬ ((out.length : Nat) : Int) < ps.length := by omega
              go_wp2_with fail
              go_meet
              case rel => exact ⟨by rw [HDR.out]; rfl, rfl⟩
          case rest =>
            obtain ⟨rfl, rfl⟩ := hcut
            have hIl := pickI_lt (ps.drop out.length) hr0
            obtain ⟨I, hI⟩ : ∃ I, pickI (ps.drop out.length) r.length = I := ⟨_, rfl⟩
            rw [hI] at hIl ⊢
            have HI := hid hI
            obtain ⟨e, he⟩ : ∃ e, r[I]? = some e := ⟨_, List.getElem?_eq_getElem hIl⟩
            have HE := hid he
            obtain ⟨rb, ro, rfl, -, hcc⟩ := (Row.evIn (F := []) HRR.out (by simp)).at_ hr0
            obtain ⟨x0, x1, x2, x3, x4⟩ := hcc I e he
            obtain ⟨⟨ea, eb⟩, ec, ed, ee⟩ := e
            simp only at x0 x1 x2 x3 x4
            have hIi : (I : Int) < r.length := by omega
            have hl40 : r.length ≤ 1099511627776 := by omega
            have ho40 : out.length ≤ 1099511627776 := by omega
            clear hI he hcc
            go_wp2_with (at_builtin; refine wpList_append_row _ rfl (.tmp 150) (.tmp 155) _ rfl 95 i1 _ 5 32 Try.underlying88 hi1 hy0 hy1 hy2 rfl (by omega) (.slice OA out.length oc) out.length _ rfl (HRO.out.alloc _) (some ⟨wr.heap.size, 0, none⟩) 1 1 [_, _, _, _, _] rfl (reads_blk5 (Blk.newAt (by simp))) (by simp [Value.oneCell']) (by simp only [maxLen]; omega) (by omega) ?_; intro v2 w2 hv2 hk2 ho2; have HV2 := hid hv2; have HK2 := hid hk2; have HO2 := hid ho2; clear hv2 hk2 ho2)
            have hwr : IntKind.i64.wrap ((I : Int) + 1) = (I : Int) + 1 := pwrap_i64 _ (by omega) (by omega)
            have hs1 := fun wx => run_cut_hi (P := Try.prog) wx 88 95 i1 5 Try.underlying88 hi1 hy1 (some ⟨rb, ro, none⟩) r.length rcp I (I : Int) rfl .i64 (by omega)
            have hcz : cutA (some (⟨rb, ro, none⟩ : Addr)) 0 rcp 5 = some ⟨rb, ro, none⟩ := by
              unfold cutA
              split
              · rfl
              · simp [Addr.add]
            simp only [hcz] at hs1
            have hs2 := fun wx => run_cut_lo (P := Try.prog) wx 88 95 i1 5 Try.underlying88 hi1 hy1 (some ⟨rb, ro, none⟩) r.length rcp (I + 1) ((I : Int) + 1) (by omega) .i64 (by omega)
            refine wp_region_held_drew (S := fun _ => True) (by kernel_rfl) trivial (fun hHeld => ?_)
            refine wpAnyH_take (i := 1) (v := ?_) rfl (by kernel_rfl) (by kernel_rfl) (by kernel_rfl) (fun _ _ _ h => h) ?_ (by trivial) ?_
            rotate_left 1
            · first | (apply Or.inl; constructor; rfl; intro Wx hSw; go_simp; try (with_reducible rfl)) | (apply Or.inr; constructor; rfl; rfl)
            try simp only [Act.put, List.getElem_toArray, List.getElem_cons_succ, List.getElem_cons_zero, List.setIfInBounds_toArray, List.set_cons_zero, List.set_cons_succ]
            refine wpAnyH_take (i := 2) (v := ?_) rfl (by kernel_rfl) (by kernel_rfl) (by kernel_rfl) (fun _ _ _ h => h) ?_ (by trivial) ?_
            rotate_left 1
            · first | (apply Or.inl; constructor; rfl; intro Wx hSw; go_simp; try (with_reducible rfl)) | (apply Or.inr; constructor; rfl; rfl)
            try simp only [Act.put, List.getElem_toArray, List.getElem_cons_succ, List.getElem_cons_zero, List.setIfInBounds_toArray, List.set_cons_zero, List.set_cons_succ]
            refine wpAnyH_take (i := 3) (v := ?_) rfl (by kernel_rfl) (by kernel_rfl) (by kernel_rfl) (fun _ _ _ h => h) ?_ (by trivial) ?_
            rotate_left 1
            · first | (apply Or.inl; constructor; rfl; intro Wx hSw; go_simp; try (with_reducible rfl)) | (apply Or.inr; constructor; rfl; rfl)
            try simp only [Act.put, List.getElem_toArray, List.getElem_cons_succ, List.getElem_cons_zero, List.setIfInBounds_toArray, List.set_cons_zero, List.set_cons_succ]
            refine wpAnyH_take (i := 5) (v := ?_) rfl (by kernel_rfl) (by kernel_rfl) (by kernel_rfl) (fun _ _ _ h => h) ?_ (by trivial) ?_
            rotate_left 1
            · first | (apply Or.inl; constructor; rfl; intro Wx hSw; go_simp; try (with_reducible rfl)) | (apply Or.inr; constructor; rfl; rfl)
            try simp only [Act.put, List.getElem_toArray, List.getElem_cons_succ, List.getElem_cons_zero, List.setIfInBounds_toArray, List.set_cons_zero, List.set_cons_succ]
            refine wpAnyH_take (i := 6) (v := ?_) rfl (by kernel_rfl) (by kernel_rfl) (by kernel_rfl) (fun _ _ _ h => h) ?_ (by trivial) ?_
            rotate_left 1
            · first | (apply Or.inl; constructor; rfl; intro Wx hSw; go_simp; try (with_reducible rfl)) | (apply Or.inr; constructor; rfl; rfl)
            try simp only [Act.put, List.getElem_toArray, List.getElem_cons_succ, List.getElem_cons_zero, List.setIfInBounds_toArray, List.set_cons_zero, List.set_cons_succ]
            refine wpAnyH_take (i := 7) (v := ?_) rfl (by kernel_rfl) (by kernel_rfl) (by kernel_rfl) (fun _ _ _ h => h) ?_ (by trivial) ?_
            rotate_left 1
            · first | (apply Or.inl; constructor; rfl; intro Wx hSw; go_simp; try (with_reducible rfl)) | (apply Or.inr; constructor; rfl; rfl)
            try simp only [Act.put, List.getElem_toArray, List.getElem_cons_succ, List.getElem_cons_zero, List.setIfInBounds_toArray, List.set_cons_zero, List.set_cons_succ]
            refine wpAnyH_take (i := 8) (v := ?_) rfl (by kernel_rfl) (by kernel_rfl) (by kernel_rfl) (fun _ _ _ h => h) ?_ (by trivial) ?_
            rotate_left 1
            · first | (apply Or.inl; constructor; rfl; intro Wx hSw; go_simp; try (with_reducible rfl)) | (apply Or.inr; constructor; rfl; rfl)
            try simp only [Act.put, List.getElem_toArray, List.getElem_cons_succ, List.getElem_cons_zero, List.setIfInBounds_toArray, List.set_cons_zero, List.set_cons_succ]
            have hwz := HKX.out.size
            have hoa : ∀ g ∈ (Value.slice OA out.length oc).ownBlock.toList, W0.heap.size ≤ g := fun g hg => HO1.out g (by simpa using hg)
            have hk5 : Keeps (Value.slice OA out.length oc).ownBlock.toList wr w2 := (((Keeps.refl [] wr).alloc _).mono (by simp)).trans HK2.out (by simp +contextual)
            have hr5 : Row w2 95 5 (.slice (some ⟨rb, ro, none⟩) r.length rcp) r.length (evsV r) := HRR.out.keeps hk5 (fun j hj hx => HLO.out j hj (by simpa using hx))
            have HK5 := hid hk5
            have HR5 := hid hr5
            clear hk5 hr5
            refine wpAnyH_ready (rs := [0]) (by kernel_rfl) (by simp) ?_
            refine AllReadyH.cons rfl (fun K hK => ?_) AllReadyH.nil
            go_simp
            refine hK.out _ _ trivial (fun hHeld => ?_)
            clear hK K
            refine wpAnyH_ready (rs := [4]) (by kernel_rfl) (by simp) ?_
            refine AllReadyH.cons rfl (fun K hK => ?_) AllReadyH.nil
            refine step_append_row _ rfl (.tmp 157) (.tmp 160) _ rfl 95 i1 _ 5 32 Try.underlying88 hi1 hy0 hy1 hy2 rfl (by omega) (.slice (some ⟨w2.heap.size, 0, none⟩) 0 0) 0 [] rfl ((row_none5 w2 95).drew) (some ⟨rb, ro, none⟩) I rcp _ rfl (((HR5.out.alloc _).take (m := I) (by omega)).drew).reads (fun u hu => evsV_one r u (List.mem_of_mem_take hu)) (by simp only [maxLen]; omega) (by omega) ?_
            intro v3 w3 hv3 hk3 ho3
            have HV3 := hid hv3
            have HO3 := hid ho3
            have hkz : Keeps [] w2 w3 := (((Keeps.refl [] w2).alloc _).drew).trans hk3 (fun g hg => .inr (by simp [Value.ownBlock] at hg; omega))
            have HK3 := hid hkz
            clear hv3 hk3 ho3 hkz
            refine hK.out _ _ trivial (fun hHeld => ?_)
            clear hK K
            refine wpAnyH_ready (rs := [9]) (by kernel_rfl) (by simp) ?_
            refine AllReadyH.cons rfl (fun K hK => ?_) AllReadyH.nil
            have hr6 := HR5.out.keeps HK3.out (by simp)
            have hcut := hr6.cut (lo := I + 1) (by omega)
            have HCU := hid hcut
            clear hr6 hcut
            refine step_append_row _ rfl (.tmp 161) (.tmp 165) _ rfl 95 i1 _ 5 32 Try.underlying88 hi1 hy0 hy1 hy2 rfl (by omega) v3 (0 + I) _ rfl (HV3.out.drew) _ (r.length - (I + 1)) _ _ rfl (HCU.out.drew).reads (fun u hu => evsV_one r u (List.mem_of_mem_drop hu)) (by simp only [maxLen]; omega) (by omega) ?_
            intro v4 w4 hv4 hk4 ho4
            have HV4 := hid hv4
            have HK4 := hid hk4
            have HO4 := hid ho4
            clear hv4 hk4 ho4
            refine hK.out _ _ trivial (fun hHeld => ?_)
            clear hK K
            refine wpAnyH_take (i := 10) (v := ?_) rfl (by kernel_rfl) (by kernel_rfl) (by kernel_rfl) (fun _ _ _ h => h) ?_ (by trivial) ?_
            rotate_left 1
            · first | (apply Or.inl; constructor; rfl; intro Wx hSw; go_simp; try (with_reducible rfl)) | (apply Or.inr; constructor; rfl; rfl)
            try simp only [Act.put, List.getElem_toArray, List.getElem_cons_succ, List.getElem_cons_zero, List.setIfInBounds_toArray, List.set_cons_zero, List.set_cons_succ]
            refine wpAnyH_done (by kernel_rfl) ?_ _
            go_wp2_with fail
            go_roundw
            case rel =>
              have hps := pickE_step (ps.drop out.length) (r := r) (e := ((ea, eb), ec, ed, ee)) (by rw [HI.out]; exact HE.out)
              rw [HI.out, List.drop_drop] at hps
              have hle : (r.eraseIdx I).length = 0 + I + (r.length - (I + 1)) := by rw [List.length_eraseIdx_of_lt hIl]; omega
              have hw2 : wr.heap.size < w2.heap.size := by have := HK2.out.size; simp at this; omega
              have hw3 := HK3.out.size
              have ho3 : ∀ j, v3.ownBlock = some j → w2.heap.size ≤ j := fun j hj => by
                rcases HO3.out j hj with h | h
                · simp [Value.ownBlock] at h
                  omega
                · simp at h
                  omega
              have ho4 : ∀ j, v4.ownBlock = some j → w2.heap.size ≤ j := fun j hj => by
                rcases HO4.out j hj with h | h
                · exact ho3 j h
                · omega
              refine ⟨r.eraseIdx I, out ++ [((ea, eb), ec, ed, ee)], by first | (go_num; done) | simp, ?_, ?_, ?_, ?_, fun j hj => ?_, fun j hj => ?_, fun j hj hj2 => ?_, ?_⟩
              · rw [← HPK.out, hps]
                simp
              · rw [hle]
                simp only [List.length_append, List.length_cons, List.length_nil]
                omega
              · have h1 := HV4.out
                rw [hle, List.eraseIdx_eq_take_drop_succ, evsV_append, evsV_take, evsV_drop]
                simpa using h1
              · have h0 := HV2.out.keeps HK3.out (by simp)
                have h1 := h0.keeps HK4.out (fun j hj hx => by
                  have h2 := ho3 j (by simpa using hx)
                  have h3 := HV2.out.lt j hj
                  omega)
                rw [evsV_append]
                simpa [evsV, evV] using h1
              · have := ho4 j hj
                have := HK5.out.size
                omega
              · rcases HO2.out j hj with h | h
                · exact HO1.out j h
                · simp at h
                  omega
              · have h2 := ho4 j hj
                have h3 := HV2.out.lt j hj2
                omega
              · have k1 : Keeps [] W0 w3 := (HKX.out.trans HK5.out (fun g hg => .inr (hoa g hg))).trans HK3.out (by simp)
                exact k1.trans HK4.out (fun g hg => .inr (by have := ho3 g (by simpa using hg); have := HK5.out.size; omega))
            case measure =>
              have hle : (r.eraseIdx I).length = 0 + I + (r.length - (I + 1)) := by rw [List.length_eraseIdx_of_lt hIl]; omega
              obtain ⟨VA, vc, hv, -⟩ := HV4.out.form
              rw [hv]
              simp only [sliceLen]
              omega
        · have hrn : r.length = 0 := by omega
          have hr0' : r = [] := List.eq_nil_of_length_eq_zero hrn
          subst hr0'
          have hout : out = pickE ps (evsR N L D) := by
            have h1 := HPK.out
            rw [pickE_nil, List.append_nil, ← HTT.out, ← HQE.out] at h1
            exact h1
          have HOUT := hid hout
          clear hout
          go_wp2
          obtain ⟨a1, a2, a3⟩ := H.out.apart
          rw [← HP.out]
          refine ⟨.slice OA out.length oc, rfl, ?_, (show RPRep wr xb n _ N L c (stD N hs D hs.length) from ⟨s, m, Fn, Fs, W, f, HPA.out.next HKX.out, rfl⟩).congr (fun k g v hLk => ?_), ?_, fun k hk => ?_⟩
          · rw [← HOUT.out]
            refine HRO.out.evIn (fun k hk hx => ?_)
            have h1 := HO1.out k hk
            simp only [List.mem_cons, List.mem_append] at hx
            rcases hx with hx | hx | hx | hx | hx
            · omega
            · omega
            · have := H.out.net.flt k hx
              omega
            · have := H.out.slab.flt k hx
              omega
            · have := (H.out.wl k hx).1
              omega
          · unfold toldRD stD
            rw [if_pos]
            rw [List.take_length, ← HHS.out]
            exact List.mem_map.2 ⟨((k : Int), g), (allFrom_mem L 0 _).2 ⟨k, v, by simp, hLk⟩, rfl⟩
          · have k1 : Keeps (xb :: m :: (Fn ++ (Fs ++ W))) w W0 := HWK.out.mono (by simp +contextual)
            exact k1.trans HKX.out (by simp)
          · have h1 := HO1.out k hk
            omega
end Go.Proofs.Ytkeffebcmajhmaa
