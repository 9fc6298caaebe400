/- The program's net: Write, State, Stop (of nobody) by contract. -/
import Derived.Test.YtkeffebcmajhmaaNet15
namespace Go.Proofs.Ytkeffebcmajhmaa
open Go.RowKit
set_option linter.unusedVariables false
set_option linter.unusedSimpArgs false
theorem stop_nil (w : World) : Calls Try.prog 62 #[.pointer none] w fun e w' => e = .returned (.tuple #[]) ∧ Keeps [] w w' := by
  go_enter Try.func62, Try.ntmps62
  go_wp2
  refine bodyPost_ret (results_none rfl _ _ _) rfl ?_
  exact ⟨rfl, Keeps.refl _ _⟩
theorem state_nil (k : Int) (w : World) : Calls Try.prog 65 #[.pointer none, .int .i64 k] w fun e w' => e = .returned (.agg #[.bool false, .bool false, .bool false, .int .i64 0]) ∧ Keeps [] w w' := by
  go_enter Try.func65, Try.ntmps65
  go_wp2_with fail
  have hb := Blk.new w 112 #[.bool false, .bool false, .bool false, .int .i64 0]
  refine (nat_nil _ _).mono ?_
  rintro e w1 ⟨rfl, hk⟩
  have hb1 := hb.keeps hk (by simp)
  have c0 := hb1.cell 0
  have c1 := hb1.cell 1
  have c2 := hb1.cell 2
  have c3 := hb1.cell 3
  have f0 := hb1.frozen 0
  have f1 := hb1.frozen 1
  have f2 := hb1.frozen 2
  have f3 := hb1.frozen 3
  simp at c0 c1 c2 c3
  have HK := hid hk
  clear hb hb1 hk
  go_wp2_with fail
  refine bodyPost_ret (v := .agg #[.bool false, .bool false, .bool false, .int .i64 0]) (by simp [results, Try.results65, go_sem, c0, c1, c2, c3]) rfl ⟨rfl, ?_⟩
  exact ((((((Keeps.refl [] w).alloc _).trans HK.out (by simp)).setCell (p := ⟨w.heap.size, 0, none⟩) (.inr (Nat.le_refl _)) _).setCell (p := ⟨w.heap.size, 1, none⟩) (.inr (Nat.le_refl _)) _).setCell (p := ⟨w.heap.size, 2, none⟩) (.inr (Nat.le_refl _)) _).setCell (p := ⟨w.heap.size, 3, none⟩) (.inr (Nat.le_refl _)) _
theorem state_any (n : Nat) (F : List Nat) (N : NS) (k : Int) (w : World) (h : NRep pc w n F N) :
    Calls Try.prog 65 #[.pointer (some ⟨n, 0, none⟩), .int .i64 k] w fun e w' => e = .returned (.agg #[.bool (stateN N k).1, .bool (stateN N k).2.1, .bool (stateN N k).2.2.1, .int .i64 (stateN N k).2.2.2]) ∧ Keeps [] w w' := by
  obtain ⟨own, ps, vc, vq, h⟩ := h
  have H := hid h
  have hb := Blk.new w 112 #[.bool false, .bool false, .bool false, .int .i64 0]
  have HB := hid hb
  unfold stateN
  rcases h.which k with hk | ⟨i, p, d, rfl, hp, hd⟩
  · rw [cnAt_none hk]
    have HK := hid hk
    clear h hk hb
    simp only
    go_enter Try.func65, Try.ntmps65
    go_wp2_with fail
    refine (nat_out (H.out.keeps ((Keeps.refl [] w).alloc _) (by simp)) _ HK.out).mono ?_
    rintro e w1 ⟨rfl, hk⟩
    have hb1 := HB.out.keeps hk (by simp)
    have c0 := hb1.cell 0
    have c1 := hb1.cell 1
    have c2 := hb1.cell 2
    have c3 := hb1.cell 3
    have f0 := hb1.frozen 0
    have f1 := hb1.frozen 1
    have f2 := hb1.frozen 2
    have f3 := hb1.frozen 3
    simp at c0 c1 c2 c3
    have HK1 := hid hk
    clear hb1 hk
    go_wp2_with fail
    refine bodyPost_ret (v := .agg #[.bool false, .bool false, .bool false, .int .i64 0]) (by simp [results, Try.results65, go_sem, c0, c1, c2, c3]) rfl ⟨rfl, ?_⟩
    exact ((((((Keeps.refl [] w).alloc _).trans HK1.out (by simp)).setCell (p := ⟨w.heap.size, 0, none⟩) (.inr (Nat.le_refl _)) _).setCell (p := ⟨w.heap.size, 1, none⟩) (.inr (Nat.le_refl _)) _).setCell (p := ⟨w.heap.size, 2, none⟩) (.inr (Nat.le_refl _)) _).setCell (p := ⟨w.heap.size, 3, none⟩) (.inr (Nat.le_refl _)) _
  · rw [cnAt_some hd]
    obtain ⟨vi, vo, vt, hc⟩ := h.at_ i p d hp hd
    have HP := hid hp
    have HC := hid hc
    obtain ⟨b0, hb0⟩ : ∃ b, d.waits = b := ⟨_, rfl⟩
    obtain ⟨b1, hb1⟩ : ∃ b, d.opn = b := ⟨_, rfl⟩
    obtain ⟨b2, hb2⟩ : ∃ b, d.broken = b := ⟨_, rfl⟩
    obtain ⟨b3, hb3⟩ : ∃ b, d.peer = b := ⟨_, rfl⟩
    simp only [hb0, hb1, hb2, hb3]
    have hpw : p ≠ w.heap.size := by have := hc.1.lt; omega
    have HBD := hid (And.intro hb0 (And.intro hb1 (And.intro hb2 hb3)))
    clear h hc hp hd hb hb0 hb1 hb2 hb3
    go_enter Try.func65, Try.ntmps65
    go_wp2_with fail
    refine (nat_in (H.out.keeps ((Keeps.refl [] w).alloc _) (by simp)) i p HP.out).mono ?_
    rintro e w1 ⟨rfl, hk⟩
    have hb1 := HB.out.keeps hk (by simp)
    have c0 := hb1.cell 0
    have c1 := hb1.cell 1
    have c2 := hb1.cell 2
    have c3 := hb1.cell 3
    have f0 := hb1.frozen 0
    have f1 := hb1.frozen 1
    have f2 := hb1.frozen 2
    have f3 := hb1.frozen 3
    simp at c0 c1 c2 c3
    have hc1 := (HC.out.1.alloc (.cells #[.bool false, .bool false, .bool false, .int .i64 0] 112)).keeps hk (by simp)
    have d0 := hc1.cell 0
    have d1 := hc1.cell 1
    have d2 := hc1.cell 2
    have d3 := hc1.cell 3
    simp [pc] at d0 d1 d2 d3
    rw [HBD.out.1] at d0
    rw [HBD.out.2.1] at d1
    rw [HBD.out.2.2.1] at d2
    rw [HBD.out.2.2.2] at d3
    have HK1 := hid hk
    clear hb1 hk hc1
    go_wp2_with fail
    refine bodyPost_ret (v := .agg #[.bool b0, .bool b1, .bool b2, .int .i64 b3]) (by simp [results, Try.results65, go_sem, c0, c1, c2, c3]) rfl ⟨rfl, ?_⟩
    exact ((((((Keeps.refl [] w).alloc _).trans HK1.out (by simp)).setCell (p := ⟨w.heap.size, 0, none⟩) (.inr (Nat.le_refl _)) _).setCell (p := ⟨w.heap.size, 1, none⟩) (.inr (Nat.le_refl _)) _).setCell (p := ⟨w.heap.size, 2, none⟩) (.inr (Nat.le_refl _)) _).setCell (p := ⟨w.heap.size, 3, none⟩) (.inr (Nat.le_refl _)) _
set_option maxRecDepth 100000 in
set_option maxHeartbeats 2000000 in
theorem write_any (n : Nat) (F : List Nat) (N : NS) (B k : Int) (pv : Value) (b : List Int) (w : World) (h : NRep pc w n F N) (hN : OkN N B) (hB : B ≤ 1099511627776) (hr : CellsIn w F pv (bytesV b)) :
    Calls Try.prog 41 #[.pointer (some ⟨n, 0, none⟩), .int .i64 k, pv] w fun e w' => e = .returned (.tuple #[.int .i64 (writeN N k b).2.1, .int .i64 (writeN N k b).2.2]) ∧ NDone pc w n F (writeN N k b).1 w' := by
  have hR := hid h
  obtain ⟨own, ps, vc, vq, h⟩ := h
  have H := hid h
  obtain ⟨i1, hi1, hy0, hy1, hy2⟩ := info_parts u8_info
  unfold writeN
  rcases h.which k with hk | ⟨i, p, d, rfl, hp, hd⟩
  · rw [onConn_none hk]
    have HK := hid hk
    clear h hk hN hr
    simp only
    go_enter Try.func41, Try.ntmps41
    go_wp2_with (go_at_call 74; refine (ours_out H.out _ HK.out).mono ?_; rintro e w1 ⟨rfl, hk⟩)
    go_ret2
    exact ⟨rfl, NDone.same hR.out hk⟩
  · rw [onConn_some hd]
    obtain ⟨vi, vo, vt, hc⟩ := h.at_ i p d hp hd
    have hok := hN.cn d (List.mem_of_getElem? hd)
    have hu0 := hok.w0
    have hu1 := hok.w1
    have hgot := hok.got
    have HD := hid hd
    have HP := hid hp
    have HC := hid hc
    have c5 := hc.1.cell 5
    have c8 := hc.1.cell 8
    have c11 := hc.1.cell 11
    simp [pc] at c5 c8 c11
    obtain ⟨t, ht⟩ : ∃ t, oursD d = t := ⟨_, rfl⟩
    obtain ⟨v, hv⟩ : ∃ v, ptrIf t p = v := ⟨_, rfl⟩
    have HT := hid (ours_W h hp hd ht hv)
    have HRW := hid hr
    obtain ⟨PA, pcap, rfl, hpc1, hpc2⟩ := hr.shape
    simp only [bytesV_length] at hpc1 HRW ⊢
    clear h hN hok hp hd hc hr
    unfold writeD
    rw [ht]
    by_cases h0 : t = 0
    · subst h0
      simp [ptrIf] at hv
      subst hv
      rw [if_pos rfl]
      clear ht
      obtain ⟨sh, hsh⟩ : ∃ b, d.shut = b := ⟨_, rfl⟩
      obtain ⟨u, hu⟩ : ∃ u, d.window = u := ⟨_, rfl⟩
      obtain ⟨l, hl⟩ : ∃ l, b.length = l := ⟨_, rfl⟩
      rw [hsh] at c5
      rw [hu] at c8 hu0 hu1
      rw [hl] at hpc1 HRW ⊢
      have HSH := hid hsh
      have HU := hid hu
      have HL := hid hl
      cases sh with
      | true =>
        rw [if_pos hsh]
        simp only
        rw [upd_self HD.out]
        clear hsh hu hl
        go_enter Try.func41, Try.ntmps41
        go_wp2_with (go_at_call 74; refine (HT.out _ (Keeps.refl _ _)).mono ?_; rintro e w1 ⟨rfl, hk⟩; have e5 := cell_keep hk (by simp) c5)
        go_ret2
        exact ⟨rfl, NDone.same hR.out hk⟩
      | false =>
        rw [if_neg (by rw [hsh]; simp)]
        by_cases hl0 : l = 0
        · subst hl0
          rw [if_pos (List.eq_nil_of_length_eq_zero hl)]
          simp only
          rw [upd_self HD.out]
          clear hsh hu hl
          go_enter Try.func41, Try.ntmps41
          go_wp2_with (go_at_call 74; refine (HT.out _ (Keeps.refl _ _)).mono ?_; rintro e w1 ⟨rfl, hk⟩; have e5 := cell_keep hk (by simp) c5)
          go_ret2
          exact ⟨rfl, NDone.same hR.out hk⟩
        · have hbn : b ≠ [] := fun e => hl0 (by rw [← hl, e]; rfl)
          rw [if_neg hbn]
          have hlb : ((l : Int) == 0) = false := by simp; omega
          by_cases hu00 : u = 0
          · rw [if_pos (by rw [hu]; exact hu00)]
            subst hu00
            simp only
            rw [upd_self HD.out]
            clear hsh hu hl hl0 hbn
            go_enter Try.func41, Try.ntmps41
            go_wp2_with (go_at_call 74; refine (HT.out _ (Keeps.refl _ _)).mono ?_; rintro e w1 ⟨rfl, hk⟩; have e5 := cell_keep hk (by simp) c5; have e8 := cell_keep hk (by simp) c8)
            go_ret2
            exact ⟨rfl, NDone.same hR.out hk⟩
          · rw [if_neg (by rw [hu]; exact hu00)]
            have hub : (u == 0) = false := by simp [hu00]
            obtain ⟨m, hm⟩ : ∃ m, min l d.window.toNat = m := ⟨_, rfl⟩
            rw [hm]
            have hml : m ≤ l := by omega
            have hmu : (m : Int) ≤ u := by omega
            have hm1 : m ≤ 1099511627776 := by omega
            have hcase : ((m : Int) = l ∧ ¬ (u < (l : Int))) ∨ ((m : Int) = u ∧ u < (l : Int)) := by omega
            obtain ⟨tl, htl⟩ : ∃ tl, b.take m = tl := ⟨_, rfl⟩
            have htll : tl.length = m := by rw [← htl, List.length_take]; omega
            obtain ⟨D', hD'⟩ : ∃ D' : Cn, ({ d with got := d.got ++ b.take m, window := d.window - (m : Nat) } : Cn) = D' := ⟨_, rfl⟩
            rw [hD']
            rw [htl] at hD'
            have HTL := hid htl
            have HTLL := hid htll
            have HD' := hid hD'
            have hmin : ∀ (ts : Array TypeId) (t : TypeId) (wx : World), (Builtin.min_ ts t #[.int .i64 (l : Int), .int .i64 u]).run Try.prog wx = .ok (.int .i64 (m : Int)) wx := by
              intro ts t wx
              rw [run_min_int2]
              rcases hcase with ⟨h1, h2⟩ | ⟨h1, h2⟩
              · rw [if_neg h2, h1]
              · rw [if_pos h2, h1]
            have hsl := fun wx => run_cut_hi (P := Try.prog) wx 66 5 i1 1 Try.underlying66 hi1 hy1 PA l pcap m (m : Int) rfl .i64 (by omega)
            have hw1 : IntKind.i64.wrap (u - (m : Int)) = u - (m : Int) := IntWalk.i64_in _ (by omega)
            obtain ⟨GA, gcap, hvo, hgc1, -⟩ := HC.out.2.2.2.1.1.form
            obtain ⟨gn, hgn⟩ : ∃ gn, d.got.length = gn := ⟨_, rfl⟩
            rw [hgn] at hvo hgc1 hgot
            rw [hvo] at c11
            have HGN := hid hgn
            have HVO := hid hvo
            have HRD0 : Hid (Reads w 1 (cutA PA 0 pcap 1) m (bytesV tl)) := by
              have h1 := (HRW.out.cut (lo := 0) (hi := m) (Nat.zero_le _) hml).reads.2
              simp only [Nat.sub_zero, List.drop_zero] at h1
              rw [← htl, bytesV_take]
              exact hid h1
            have hAF : ∀ ad, cutA PA 0 pcap 1 = some ad → 0 < m → ad.block ∉ F := by
              intro ad had hm0
              obtain ⟨A', c', hv', h1', h2', h3'⟩ := (HRW.out.cut (lo := 0) (hi := m) (Nat.zero_le _) hml)
              injection hv' with hA'
              obtain ⟨bb, oo, hA2, hbF, -⟩ := h3' (by simp; simp only [List.length_take, List.length_drop, bytesV_length] at *; omega)
              rw [hA', hA2] at had
              injection had with had
              rw [← had]
              exact hbF
            clear hsh hu hl hl0 hbn hu00 hm htl hcase hD' htll hgn hvo
            go_enter Try.func41, Try.ntmps41
            go_wp2_with (first
              | (go_at_call 74; refine (HT.out _ (Keeps.refl _ _)).mono ?_; rintro e w1 ⟨rfl, hk⟩; have e5 := cell_keep hk (by simp) c5; have e8 := cell_keep hk (by simp) c8; have e11 := cell_keep hk (by simp) c11; have HK1 := hid hk; clear hk)
              | (at_builtin; refine wpList_append_row _ rfl (.tmp 48) (.tmp 49) _ rfl 5 i1 _ 1 1 Try.underlying66 hi1 hy0 hy1 hy2 rfl (by omega) (.slice GA gn gcap) gn (bytesV d.got) rfl (by have h1 := HC.out.2.2.2.1.1.keeps HK1.out (by simp); rw [HGN.out, HVO.out] at h1; exact h1) (cutA PA 0 pcap 1) m pcap (bytesV tl) rfl (HRD0.out.keeps HK1.out (by simp)) (bytesV_one _) (by simp only [maxLen]; omega) (by omega) ?_; intro v5 w5 hv5 hk5 ho5; obtain ⟨A5, q5, rfl, -⟩ := hv5.form; have hpt : p ∉ (Value.slice GA gn gcap).ownBlock.toList := (by rw [← HVO.out]; exact pnot (i := i) (vi := vi) (vo := vo) (vt := vt) HC.out.2.2.2.1.2 (by rw [HC.out.2.1]; omega)); have b5 := (HC.out.1.keeps HK1.out (by simp)).keeps hk5 hpt; have j11 := b5.cell 11; have k11 := b5.frozen 11; have j8 := b5.cell 8; have k8 := b5.frozen 8; simp [pc] at j11 j8; rw [HU.out] at j8; have HV5 := hid hv5; have HK5 := hid hk5; have HO5 := hid ho5; clear b5 hpt hv5 hk5 ho5))
            go_ret2
            refine ⟨rfl, NDone.after (H.out.keeps HK1.out (by simp)) HK1.out ?_⟩
            have hdone := write_done (w := w1) (m := m) (b := tl) (u := u - (m : Int)) (v5 := .slice A5 (gn + m) q5) (H.out.keeps HK1.out (by simp)) HP.out (HC.out.keeps HK1.out (by simp)) HTLL.out (by rw [HGN.out]; exact HV5.out) (by rw [HVO.out]; exact HK5.out) (by rw [HVO.out]; exact HO5.out)
            rw [← HD'.out, HU.out]
            exact hdone
    · rw [if_neg h0]
      simp only
      rw [upd_self HD.out]
      simp [ptrIf, h0] at hv
      subst hv
      have HT0 := hid ht
      have hne : (t == 0) = false := by simp [h0]
      have hne2 : (t != 0) = true := by simp [h0]
      clear h0 ht
      go_enter Try.func41, Try.ntmps41
      go_wp2_with (go_at_call 74; refine (HT.out _ (Keeps.refl _ _)).mono ?_; rintro e w1 ⟨rfl, hk⟩)
      go_ret2
      exact ⟨rfl, NDone.same hR.out hk⟩
end Go.Proofs.Ytkeffebcmajhmaa
