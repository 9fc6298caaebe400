/- The reference's poller: Watch by contract, where there is something to watch. -/
import Derived.Test.YtkeffebcmajhmaaPq28
namespace Go.Proofs.Ytkeffebcmajhmaa
open Go.RowKit
set_option linter.unusedVariables false
set_option linter.unusedSimpArgs false
def RWatchYes (w : World) (xb n : Nat) (F : List Nat) (N : NS) (L : List Slot) (c : Int) (D : Nat → Wd) (d : Wd) (e : Ending) (w' : World) : Prop :=
  e = .returned (.tuple #[.agg #[.int .i64 (freeAt L : Nat), .int .i64 (putG L)], .int .i64 0]) ∧ (∃ F', RPRep w' xb n F' N (putL L d.id) (c + 1) (updD D (freeAt L) d) ∧ LaterF F w F') ∧ Keeps F w w'
def RWatchPost (w : World) (xb n : Nat) (F : List Nat) (N : NS) (L : List Slot) (c : Int) (D : Nat → Wd) (d : Wd) (e : Ending) (w' : World) : Prop :=
  (∃ (k : Nat) (g : Int), L[k]? = some (g, true, d.id)) ∧ WatchNo w 11 e w' ∨ (∀ (k : Nat) (g v : Int), L[k]? = some (g, true, v) → v ≠ d.id) ∧ RWatchYes w xb n F N L c D d e w'
set_option maxRecDepth 100000 in
set_option maxHeartbeats 8000000 in
theorem rwatch_any (xb n : Nat) (F : List Nat) (N : NS) (L : List Slot) (c : Int) (D : Nat → Wd) (id : Int) (rd wr_ ed : Bool) (w : World) (h : RPRep w xb n F N L c D) (h1 : id = -1 ∨ (stateN N id).2.1 = true) (hg : ∀ d ∈ L, 0 ≤ d.1 ∧ d.1 ≤ 1099511627776) (hL : L.length ≤ 1099511627776) (hc0 : -1099511627776 ≤ c) (hc1 : c < 4096) :
    Calls Try.prog 98 #[.pointer (some ⟨xb, 0, none⟩), .int .i64 id, .bool rd, .bool wr_, .bool ed] w (RWatchPost w xb n F N L c D ⟨id, rd, wr_, ed, -1, -1⟩) := by
  obtain ⟨s, m, Fn, Fs, W, f, h, rfl⟩ := h
  have H := hid h
  have p0 := h.blk.cell 0
  have p1 := h.blk.cell 1
  have p2 := h.blk.cell 2
  simp [pcells] at p0 p1 p2
  have HG := hid hg
  obtain ⟨POST, hPOST⟩ : ∃ P, RWatchPost w xb n (xb :: m :: (Fn ++ (Fs ++ W))) N L c D ⟨id, rd, wr_, ed, -1, -1⟩ = P := ⟨_, rfl⟩
  rw [hPOST]
  have HP := hid hPOST
  obtain ⟨own, ps, vc, vq, hn⟩ := h.net
  clear h hg hPOST
  obtain ⟨hs, hhs⟩ : ∃ hs, allFrom 0 L = hs := ⟨_, rfl⟩
  have hhl : hs.length ≤ 1099511627776 := by rw [← hhs]; have := allFrom_le L 0; omega
  have HHS := hid hhs
  clear hhs
  have q0 := fun o => alloc_cell p0 o
  have q1 := fun o => alloc_cell p1 o
  have q2 := fun o => alloc_cell p2 o
  have hb := Blk.new w 30 #[.int .i64 0, .int .i64 0]
  have HB := hid hb
  clear hb
  have n1 := hn.blk.cell 1
  simp [rc] at n1
  have m1 := fun o => alloc_cell n1 o
  have h1 : (id != -1) = false ∨ ((id != -1) = true ∧ (stateN N id).2.1 = true) := by
    rcases h1 with rfl | h1
    · exact .inl rfl
    · cases hc : (id != -1)
      · exact .inl rfl
      · exact .inr ⟨rfl, h1⟩
  rcases h1 with hne | ⟨hne, hs'⟩
  focus
    clear hn n1 m1
    go_enter Try.func98, Try.ntmps98
    go_wp2_with (go_at_call 32; refine (rsall_any s Fs 4096 c L _ (H.out.slab.keeps ((Keeps.refl [] w).alloc _) (by simp)) hL).mono ?_; rw [HHS.out]; rintro e w1 ⟨⟨hv, rfl, hv1, ho1⟩, hk1⟩; obtain ⟨HA, hcc, rfl, hc1', hc2', -⟩ := hv1.form; have HV0 := hid (Row.hsIn (F := []) hv1 (by simp)); have hk2 := ((Keeps.refl [] w).alloc _).trans hk1 (by simp); have HK1 := hid hk2; have HB1 := hid (HB.out.keeps hk1 (by simp)); clear hv1 ho1 hk1 hk2)
  rotate_left 1
  focus
    unfold stateN at hs'
    rcases hn.which id with hk | ⟨i, p, d, rfl, hp, hd⟩
    focus
      rw [cnAt_none hk] at hs'
      cases hs'
    rw [cnAt_some hd] at hs'
    obtain ⟨p, b, off, cap, -, rfl, hkl, hle, hcap, hcell, hbn, vi, vo, vt, hc⟩ := hn.conn hd
    have c2 := hc.1.cell 2
    simp [rc] at c2
    simp only at hs'
    rw [hs'] at c2
    have e2 := fun o => alloc_cell c2 o
    have ec := fun o => alloc_cell hcell o
    have hki : (i : Int) < N.cs.length := by omega
    have d0 : decide ((i : Int) < 0) = false := by simp
    have d1 : decide ((N.cs.length : Int) ≤ (i : Int)) = false := by simp; omega
    clear hn hc hp hd hs' c2 hcell n1
    go_enter Try.func98, Try.ntmps98
    go_wp2_with (go_at_call 32; refine (rsall_any s Fs 4096 c L _ (H.out.slab.keeps ((Keeps.refl [] w).alloc _) (by simp)) hL).mono ?_; rw [HHS.out]; rintro e w1 ⟨⟨hv, rfl, hv1, ho1⟩, hk1⟩; obtain ⟨HA, hcc, rfl, hc1', hc2', -⟩ := hv1.form; have HV0 := hid (Row.hsIn (F := []) hv1 (by simp)); have hk2 := ((Keeps.refl [] w).alloc _).trans hk1 (by simp); have HK1 := hid hk2; have HB1 := hid (HB.out.keeps hk1 (by simp)); clear hv1 ho1 hk1 hk2)
    clear e2 ec hki d0 d1 m1 hbn hcap hle hkl
    obtain ⟨id, hid'⟩ : ∃ x, (i : Int) = x := ⟨_, rfl⟩
    rw [hid'] at hne HP ⊢
    clear hid'
  all_goals
    try go_frame
    have hz1 : w.heap.size < w1.heap.size := HB1.out.lt
    go_loopw [11, 13] (fun r i wr => r = .int .i64 0 ∧ ∃ k : Nat, k ≤ hs.length ∧ i = .int .i64 k ∧ (∀ (j : Nat) (h : Int × Int), j < k → hs[j]? = some h → (D h.1.toNat).id ≠ id) ∧ Keeps [] w1 wr) (fun _ i _ => hs.length - (intOf i).toNat)
    case atStart => exact ⟨rfl, 0, Nat.zero_le _, rfl, fun j _ hj => by omega, Keeps.refl _ _⟩
    case round =>
      obtain ⟨rfl, k, hk, rfl, hno, hkr⟩ := hrel
      have HNO := hid hno
      have HKR := hid hkr
      have HK3 := hid (HK1.out.trans hkr (by simp))
      have HB2 := hid (HB1.out.keeps hkr (by simp))
      clear hno hkr
      by_cases hlt : k < hs.length
      · obtain ⟨hd, hhd⟩ : ∃ d, hs[k]? = some d := ⟨hs[k], List.getElem?_eq_getElem hlt⟩
        obtain ⟨kk, v, hkk, hLk⟩ := (allFrom_mem L 0 hd).1 (by rw [HHS.out]; exact List.mem_of_getElem? hhd)
        rw [Nat.zero_add] at hkk
        obtain ⟨ha, hg⟩ := hd
        simp only at hkk hLk
        subst hkk
        obtain ⟨p, hf, hbp, hid1⟩ := H.out.at_ kk hg v hLk
        obtain ⟨b1, o1, rfl, -, hc1⟩ := (HV0.out.keeps HKR.out (by simp)).at_ (by omega)
        obtain ⟨d0, -⟩ := hc1 k _ hhd
        simp only at d0
        have c0 := (hbp.keeps HK3.out (by simp)).cell 0
        simp [wcells] at c0
        have e2 := cell_keep HK3.out (by simp) p2
        have hlk : ∀ (j : Nat), (Instr.lookup 127 (.map (some m)) (.int .i64 kk) false).run Try.prog (wr.drewN j) = .ok (.pointer (some ⟨p, 0, none⟩)) (wr.drewN j) := fun j => by
          have := run_lookI (H.out.map.keeps (HK3.out.drewN j) (by simp)) (kk : Int)
          rw [hf] at this
          exact this
        have HHD := hid (⟨hhd, hLk, hid1⟩ : hs[k]? = some ((kk : Int), hg) ∧ L[kk]? = some (hg, true, v) ∧ (D kk).id = v)
        have hki : (k : Int) < hs.length := by omega
        clear hc1 hbp hf hid1 hhd hLk
        by_cases hxi : (D kk).id = id
        · have hxi' := hid hxi
          have hq : ((D kk).id == id) = true := by simpa using hxi
          clear hxi
          have hb2 := HB2.out
          have r0 := hb2.cell 0
          have r1 := hb2.cell 1
          simp at r0 r1
          have f0 := hb2.frozen 0
          have f1 := hb2.frozen 1
          clear hb2
          go_wp2_with fail
          go_quiet (fail)
          go_wp2_with fail
          refine bodyPost_ret (v := .tuple #[.agg #[.int .i64 0, .int .i64 0], .int .i64 11]) (by simp [results, Try.results98, go_sem, r0, r1]) rfl ?_
          rw [← HP.out]
          refine .inl ⟨⟨kk, hg, by have h8 := HHD.out.2.2; rw [hxi'.out] at h8; simp only; rw [h8]; exact HHD.out.2.1⟩, rfl, by (repeat (first | exact HK3.out | exact .inr (Nat.le_refl _) | apply Keeps.drewN | apply Keeps.alloc | apply Keeps.setCell))⟩
        · have hxi' := hid hxi
          have hq : ((D kk).id == id) = false := by simpa using hxi
          clear hxi
          go_wp2_with fail
          go_quiet (fail)
          go_wp2_with fail
          go_roundw
          case rel =>
            refine ⟨rfl, k + 1, by omega, by go_num, fun j h hj hjh => ?_, HKR.out.drewN _⟩
            by_cases hjk : j = k
            · subst hjk
              rw [HHD.out.1] at hjh
              injection hjh with hjh
              subst hjh
              simpa using hxi'.out
            · exact HNO.out j h (by omega) hjh
          case measure => simp [intOf] <;> omega
      · have hkl : k = hs.length := by omega
        subst hkl
        have hnone : ∀ (k : Nat) (g v : Int), L[k]? = some (g, true, v) → v ≠ id := fun k g v hLk hv => by
          have h3 : ((k : Int), g) ∈ hs := by
            rw [← HHS.out]
            exact (allFrom_mem L 0 _).2 ⟨k, v, by simp, hLk⟩
          obtain ⟨j, hj⟩ := List.getElem?_of_mem h3
          obtain ⟨p, -, -, h4⟩ := H.out.at_ k g v hLk
          have := HNO.out j _ (List.getElem?_eq_some_iff.1 hj).1 hj
          simp only [Int.toNat_natCast] at this
          exact this (h4.trans hv)
        have HN1 := hid hnone
        clear hnone
        have e1 := cell_keep HK3.out (by simp) p1
        have e2 := cell_keep HK3.out (by simp) p2
        go_wp2_with (go_at_call 26; refine (rsput_any s Fs 4096 c L id _ (H.out.slab.keeps HK3.out (by simp)) hc1 HG.out hL hc0 (by omega)).mono ?_; rintro e w3 ⟨rfl, ⟨Fs', hs3, hla⟩, hk3⟩; have HS3 := hid hs3; have HLA := hid hla; have HK6 := hid hk3; clear hs3 hla hk3)
        have e3 := cell_keep HK6.out (fun hx => (H.out.d2 _ hx).1 rfl) e2
        have g2 := fun o => alloc_cell e3 o
        have hh := Blk.new w3 30 #[.int .i64 (freeAt L : Nat), .int .i64 (putG L)]
        have HH := hid hh
        obtain ⟨w4, hw4⟩ : ∃ x, w3.alloc (.cells #[.int .i64 (freeAt L : Nat), .int .i64 (putG L)] 30) = x := ⟨_, rfl⟩
        have hk7 : Keeps [] w3 w4 := by rw [← hw4]; exact (Keeps.refl [] w3).alloc _
        have HK7 := hid hk7
        have g3 := g2 (.cells #[.int .i64 (freeAt L : Nat), .int .i64 (putG L)] 30)
        rw [hw4] at HH g3 ⊢
        have g0 := HH.out.cell 0
        have g1 := HH.out.cell 1
        simp at g0 g1
        clear g2 hh hk7 hw4 e3
        obtain ⟨S, hSe⟩ : ∃ S : World → Prop, ∀ w', S w' ↔ (w'.cell? ⟨xb, 2, none⟩ = some (.map (some m)) ∧ w'.cell? ⟨w3.heap.size, 0, none⟩ = some (.int .i64 (freeAt L : Nat)) ∧ w'.cell? ⟨w3.heap.size, 1, none⟩ = some (.int .i64 (putG L))) := ⟨_, fun _ => Iff.rfl⟩
        have hSw1 : S w4.drew := (hSe _).2 ⟨g3, g0, g1⟩
        refine wp_region_held_drew (S := S) (by kernel_rfl) hSw1 (fun hHeld => ?_)
        refine wpAnyH_take (i := 0) (v := ?_) rfl (by kernel_rfl) (by kernel_rfl) (by kernel_rfl) (fun _ _ _ h => h) ?_ (by assumption) ?_
        rotate_left 1
        · first | (apply Or.inl; constructor; rfl; intro Wx hSw; obtain ⟨s1_, s2_, s3_⟩ := (hSe _).1 hSw; go_simp; try (with_reducible rfl)) | (apply Or.inr; constructor; rfl; rfl)
        try simp only [Act.put, List.getElem_toArray, List.getElem_cons_succ, List.getElem_cons_zero, List.setIfInBounds_toArray, List.set_cons_zero, List.set_cons_succ]
        refine wpAnyH_take (i := 1) (v := ?_) rfl (by kernel_rfl) (by kernel_rfl) (by kernel_rfl) (fun _ _ _ h => h) ?_ (by assumption) ?_
        rotate_left 1
        · first | (apply Or.inl; constructor; rfl; intro Wx hSw; obtain ⟨s1_, s2_, s3_⟩ := (hSe _).1 hSw; go_simp; try (with_reducible rfl)) | (apply Or.inr; constructor; rfl; rfl)
        try simp only [Act.put, List.getElem_toArray, List.getElem_cons_succ, List.getElem_cons_zero, List.setIfInBounds_toArray, List.set_cons_zero, List.set_cons_succ]
        refine wpAnyH_take (i := 2) (v := ?_) rfl (by kernel_rfl) (by kernel_rfl) (by kernel_rfl) (fun _ _ _ h => h) ?_ (by assumption) ?_
        rotate_left 1
        · first | (apply Or.inl; constructor; rfl; intro Wx hSw; obtain ⟨s1_, s2_, s3_⟩ := (hSe _).1 hSw; go_simp; try (with_reducible rfl)) | (apply Or.inr; constructor; rfl; rfl)
        try simp only [Act.put, List.getElem_toArray, List.getElem_cons_succ, List.getElem_cons_zero, List.setIfInBounds_toArray, List.set_cons_zero, List.set_cons_succ]
        refine wpAnyH_take (i := 3) (v := ?_) rfl (by kernel_rfl) (by kernel_rfl) (by kernel_rfl) (fun _ _ _ h => h) ?_ (by assumption) ?_
        rotate_left 1
        · first | (apply Or.inl; constructor; rfl; intro Wx hSw; obtain ⟨s1_, s2_, s3_⟩ := (hSe _).1 hSw; go_simp; try (with_reducible rfl)) | (apply Or.inr; constructor; rfl; rfl)
        try simp only [Act.put, List.getElem_toArray, List.getElem_cons_succ, List.getElem_cons_zero, List.setIfInBounds_toArray, List.set_cons_zero, List.set_cons_succ]
        refine wpAnyH_take (i := 4) (v := ?_) rfl (by kernel_rfl) (by kernel_rfl) (by kernel_rfl) (fun _ _ _ h => h) ?_ (by assumption) ?_
        rotate_left 1
        · first | (apply Or.inl; constructor; rfl; intro Wx hSw; obtain ⟨s1_, s2_, s3_⟩ := (hSe _).1 hSw; go_simp; try (with_reducible rfl)) | (apply Or.inr; constructor; rfl; rfl)
        try simp only [Act.put, List.getElem_toArray, List.getElem_cons_succ, List.getElem_cons_zero, List.setIfInBounds_toArray, List.set_cons_zero, List.set_cons_succ]
        refine wpAnyH_take (i := 5) (v := ?_) rfl (by kernel_rfl) (by kernel_rfl) (by kernel_rfl) (fun _ _ _ h => h) ?_ (by assumption) ?_
        rotate_left 1
        · first | (apply Or.inl; constructor; rfl; intro Wx hSw; obtain ⟨s1_, s2_, s3_⟩ := (hSe _).1 hSw; go_simp; try (with_reducible rfl)) | (apply Or.inr; constructor; rfl; rfl)
        try simp only [Act.put, List.getElem_toArray, List.getElem_cons_succ, List.getElem_cons_zero, List.setIfInBounds_toArray, List.set_cons_zero, List.set_cons_succ]
        refine wpAnyH_take (i := 6) (v := ?_) rfl (by kernel_rfl) (by kernel_rfl) (by kernel_rfl) (fun _ _ _ h => h) ?_ (by assumption) ?_
        rotate_left 1
        · first | (apply Or.inl; constructor; rfl; intro Wx hSw; obtain ⟨s1_, s2_, s3_⟩ := (hSe _).1 hSw; go_simp; try (with_reducible rfl)) | (apply Or.inr; constructor; rfl; rfl)
        try simp only [Act.put, List.getElem_toArray, List.getElem_cons_succ, List.getElem_cons_zero, List.setIfInBounds_toArray, List.set_cons_zero, List.set_cons_succ]
        refine wpAnyH_take (i := 7) (v := ?_) rfl (by kernel_rfl) (by kernel_rfl) (by kernel_rfl) (fun _ _ _ h => h) ?_ (by assumption) ?_
        rotate_left 1
        · first | (apply Or.inl; constructor; rfl; intro Wx hSw; obtain ⟨s1_, s2_, s3_⟩ := (hSe _).1 hSw; go_simp; try (with_reducible rfl)) | (apply Or.inr; constructor; rfl; rfl)
        try simp only [Act.put, List.getElem_toArray, List.getElem_cons_succ, List.getElem_cons_zero, List.setIfInBounds_toArray, List.set_cons_zero, List.set_cons_succ]
        refine wpAnyH_take (i := 8) (v := ?_) rfl (by kernel_rfl) (by kernel_rfl) (by kernel_rfl) (fun _ _ _ h => h) ?_ (by assumption) ?_
        rotate_left 1
        · first | (apply Or.inl; constructor; rfl; intro Wx hSw; obtain ⟨s1_, s2_, s3_⟩ := (hSe _).1 hSw; go_simp; try (with_reducible rfl)) | (apply Or.inr; constructor; rfl; rfl)
        try simp only [Act.put, List.getElem_toArray, List.getElem_cons_succ, List.getElem_cons_zero, List.setIfInBounds_toArray, List.set_cons_zero, List.set_cons_succ]
        refine wpAnyH_take (i := 9) (v := ?_) rfl (by kernel_rfl) (by kernel_rfl) (by kernel_rfl) (fun _ _ _ h => h) ?_ (by assumption) ?_
        rotate_left 1
        · first | (apply Or.inl; constructor; rfl; intro Wx hSw; obtain ⟨s1_, s2_, s3_⟩ := (hSe _).1 hSw; go_simp; try (with_reducible rfl)) | (apply Or.inr; constructor; rfl; rfl)
        try simp only [Act.put, List.getElem_toArray, List.getElem_cons_succ, List.getElem_cons_zero, List.setIfInBounds_toArray, List.set_cons_zero, List.set_cons_succ]
        refine wpAnyH_take (i := 10) (v := ?_) rfl (by kernel_rfl) (by kernel_rfl) (by kernel_rfl) (fun _ _ _ h => h) ?_ (by assumption) ?_
        rotate_left 1
        · first | (apply Or.inl; constructor; rfl; intro Wx hSw; obtain ⟨s1_, s2_, s3_⟩ := (hSe _).1 hSw; go_simp; try (with_reducible rfl)) | (apply Or.inr; constructor; rfl; rfl)
        try simp only [Act.put, List.getElem_toArray, List.getElem_cons_succ, List.getElem_cons_zero, List.setIfInBounds_toArray, List.set_cons_zero, List.set_cons_succ]
        refine wpAnyH_ready (rs := [11]) (by kernel_rfl) (by simp) ?_
        refine AllReadyH.cons rfl (fun K hK => ?_) AllReadyH.nil
        go_simp
        have h5k : Keeps [] w4 (w4.drew.alloc (.cells #[.int .i64 id, .bool rd, .bool wr_, .bool ed, .int .i64 (-1), .int .i64 (-1)] 173)) := (Keeps.refl [] w4.drew).pre1.alloc _
        have h5b := Blk.new w4.drew 173 #[.int .i64 id, .bool rd, .bool wr_, .bool ed, .int .i64 (-1), .int .i64 (-1)]
        refine hK.out _ _ ((hSe _).2 ⟨cell_keep h5k (by simp) g3, cell_keep h5k (by simp) g0, cell_keep h5k (by simp) g1⟩) (fun hHeld => ?_)
        clear hK K
        try simp only [Act.put, List.getElem_toArray, List.getElem_cons_succ, List.getElem_cons_zero, List.setIfInBounds_toArray, List.set_cons_zero, List.set_cons_succ]
        refine wpAnyH_ready (rs := [12]) (by kernel_rfl) (by simp) ?_
        refine AllReadyH.cons rfl (fun K hK => ?_) AllReadyH.nil
        have k31 : Keeps Fs w wr := HK3.out.mono (by simp)
        have k71 : Keeps Fs w3 w4 := HK7.out.mono (by simp)
        have hkA : Keeps Fs w w4 := (k31.trans HK6.out (by simp +contextual)).trans k71 (by simp +contextual)
        have k51 : Keeps Fs w4 (w4.drew.alloc (.cells #[.int .i64 id, .bool rd, .bool wr_, .bool ed, .int .i64 (-1), .int .i64 (-1)] 173)) := h5k.mono (by simp)
        have hkB : Keeps Fs w (w4.drew.alloc (.cells #[.int .i64 id, .bool rd, .bool wr_, .bool ed, .int .i64 (-1), .int .i64 (-1)] 173)) := hkA.trans k51 (by simp +contextual)
        obtain ⟨w6, hrun, hm6, hk6⟩ := run_storeI (w := (w4.alloc (.cells #[.int .i64 id, .bool rd, .bool wr_, .bool ed, .int .i64 (-1), .int .i64 (-1)] 173)).drew) (H.out.map.keeps hkB (fun hx => (H.out.d2 _ hx).2.1 rfl)) ((freeAt L : Nat) : Int) w4.heap.size
        go_simp
        have hmw5 : m < w.heap.size := H.out.map.lt
        have hsz3 := HK3.out.size
        have hsz6 := HK6.out.size
        have hsz7 := HK7.out.size
        have hpm : xb ≠ m := fun e => H.out.apart.1 e.symm
        refine hK.out _ _ ((hSe _).2 ⟨cell_keep hk6 (by simpa using hpm) (cell_keep h5k (by simp) g3), cell_keep hk6 (by simp; omega) (cell_keep h5k (by simp) g0), cell_keep hk6 (by simp; omega) (cell_keep h5k (by simp) g1)⟩) (fun hHeld => ?_)
        clear hK K
        refine wpAnyH_done (by kernel_rfl) ?_ _
        have j0 := cell_keep hk6 (by simp; omega) (cell_keep h5k (by simp) g0)
        have j1 := cell_keep hk6 (by simp; omega) (cell_keep h5k (by simp) g1)
        have hkC : Keeps Fs wr (w4.drew.alloc (.cells #[.int .i64 id, .bool rd, .bool wr_, .bool ed, .int .i64 (-1), .int .i64 (-1)] 173)) := (HK6.out.trans k71 (by simp +contextual)).trans k51 (by simp +contextual)
        have hbR := (HB2.out.keeps hkC (fun hx => by have := H.out.slab.flt _ hx; omega)).keeps hk6 (by simp; omega)
        have r0 := hbR.cell 0
        have r1 := hbR.cell 1
        have f0 := hbR.frozen 0
        have f1 := hbR.frozen 1
        simp at r0 r1
        have hadd := (H.out.next HK3.out).add (d := ⟨id, rd, wr_, ed, -1, -1⟩) HS3.out HLA.out HK6.out (HK7.out.trans h5k (by simp)) hsz7 h5b hm6 hk6
        have hkD : Keeps (m :: Fs) w w6 := (hkB.mono (by simp +contextual)).trans hk6 (by simp)
        have HAD := hid hadd
        have HKD := hid hkD
        have HW6 := hid hk6
        clear hadd hkD hbR hkC hm6 hk6 hrun hkB hkA h5b
        go_wp2_with fail
        refine bodyPost_ret (v := .tuple #[.agg #[.int .i64 (freeAt L : Nat), .int .i64 (putG L)], .int .i64 0]) (by simp [results, Try.results98, go_sem, r0, r1]) rfl ?_
        rw [← HP.out]
        have hlt := (H.out.apart).2.1
        have hB2 := HB2.out.lt
        have hK2 : ∀ k ∈ [w.heap.size], k ≠ xb ∧ k ∉ Fn ∧ k ∉ Fs' ∧ k ≠ m ∧ k ∉ w4.heap.size :: W := by
          intro k hk
          simp at hk
          subst hk
          refine ⟨by omega, fun hx => by have := H.out.net.flt _ hx; omega, fun hx => ?_, by omega, fun hx => ?_⟩
          · rcases HLA.out _ hx with e | e
            · have := H.out.slab.flt _ e
              omega
            · omega
          · rcases List.mem_cons.1 hx with hx | hx
            · omega
            · have := (H.out.wl _ hx).1
              omega
        refine .inr ⟨HN1.out, rfl, ⟨_, ⟨s, m, Fn, Fs', _, _, HAD.out.keeps (((Keeps.refl [w.heap.size] w6).setCell (p := ⟨w.heap.size, 0, none⟩) (.inl (by simp)) _).setCell (p := ⟨w.heap.size, 1, none⟩) (.inl (by simp)) _) hK2, rfl⟩, fun k hk => ?_⟩, ((HKD.out.mono (by simp +contextual)).setCell (p := ⟨w.heap.size, 0, none⟩) (.inr (Nat.le_refl _)) _).setCell (p := ⟨w.heap.size, 1, none⟩) (.inr (Nat.le_refl _)) _⟩
        simp only [List.mem_cons, List.mem_append] at hk ⊢
        rcases hk with hk | hk | hk | hk | hk | hk
        · exact .inl (.inl hk)
        · exact .inl (.inr (.inl hk))
        · exact .inl (.inr (.inr (.inl hk)))
        · rcases HLA.out k hk with e | e
          · exact .inl (.inr (.inr (.inr (.inl e))))
          · exact .inr (by omega)
        · exact .inr (by omega)
        · exact .inl (.inr (.inr (.inr (.inr hk))))
end Go.Proofs.Ytkeffebcmajhmaa
