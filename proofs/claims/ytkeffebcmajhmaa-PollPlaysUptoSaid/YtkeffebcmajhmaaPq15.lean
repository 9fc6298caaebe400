/- The reference's net: Read by contract. -/
import Derived.Test.YtkeffebcmajhmaaPq14
namespace Go.Proofs.Ytkeffebcmajhmaa
open Go.RowKit
set_option linter.unusedVariables false
set_option linter.unusedSimpArgs false
theorem rread_done {w w3 w4 : World} {n i p m l : Nat} {F : List Nat} {own : Nat → Nat} {ps : List Nat} {vc vq vi vo vt v3 v4 : Value} {N : NS} {d : Cn} {dl tl : List Int} (h : NAt rc w n F own ps vc vq N) (hp : ps[i]? = some p) (hc : CAt rc w own i p d vi vo vt)
    (hl : dl.length = l) (hm : tl.length = m) (hv3 : Row w3 5 1 v3 l (bytesV dl)) (hk3 : Keeps [] w w3) (ho3 : ∀ k, v3.ownBlock = some k → w.heap.size ≤ k)
    (hv4 : Row w4 5 1 v4 (d.told.length + m) (bytesV d.told ++ bytesV tl)) (hk4 : Keeps vt.ownBlock.toList (w3.setCell ⟨p, 7, none⟩ v3) w4) (ho4 : ∀ k, v4.ownBlock = some k → vt.ownBlock = some k ∨ w3.heap.size ≤ k) :
    NDone rc w n F (N.upd i { d with inn := dl, told := d.told ++ tl }) (w4.setCell ⟨p, 9, none⟩ v4) := by
  obtain ⟨h1, h2, h3, h4, h5⟩ := hc
  subst hl hm
  have hpF : p ∈ F := h.ftag p (by omega)
  have hz3 := hk3.size
  have hpt : p ∉ vt.ownBlock.toList := pnot (i := i) (vi := vi) (vo := vo) (vt := vt) h5.2 (by omega)
  have b1 := (h1.keeps hk3 (by simp)).set_ 7 v3
  have b4 := b1.keeps hk4 hpt
  have K3 : Keeps (p :: vt.ownBlock.toList) w (w3.setCell ⟨p, 7, none⟩ v3) := (hk3.mono (by simp)).setCell (p := ⟨p, 7, none⟩) (.inl (by simp)) _
  have K : Keeps (p :: vt.ownBlock.toList) w (w4.setCell ⟨p, 9, none⟩ v4) :=
    (K3.trans hk4 (fun g hg => .inl (List.mem_cons_of_mem _ hg))).setCell (p := ⟨p, 9, none⟩) (.inl (by simp)) _
  have hnot : ∀ k, own k ≠ 4 * i + 4 → own k ≠ 4 * i + 7 → k ∉ p :: vt.ownBlock.toList := fun k a b hx => by
    simp only [List.mem_cons, Option.mem_toList] at hx
    rcases hx with rfl | e
    · exact a h2
    · exact b (h5.2 k e)
  have r3 : Row (w3.setCell ⟨p, 7, none⟩ v3) 5 1 v3 dl.length (bytesV dl) := hv3.far (p := ⟨p, 7, none⟩) (fun k e => by have := ho3 k e; have := h1.lt; simp only; omega) v3
  have r4 : Row w4 5 1 v3 dl.length (bytesV dl) := r3.keeps hk4 (fun k e hx => by
    have a := ho3 k e
    have b := h5.1.lt k (by simpa using hx)
    omega)
  refine ⟨h.put (G := p :: vt.ownBlock.toList) (d' := { d with inn := dl, told := d.told ++ tl }) (vi := v3) (vo := vo) (vt := v4) (vq' := vq) hp rfl K ?_ h2 h1.lt ?_ ?_ ?_ ?_ ?_ ?_ ?_ ?_ ?_ ?_ ?_, ?_⟩
  · intro k hk' _
    simp only [List.mem_cons, Option.mem_toList] at hk'
    rcases hk' with rfl | e
    · omega
    · have := h5.2 k e
      omega
  · exact h.blk.keeps K (hnot n (by rw [h.tn]; omega) (by rw [h.tn]; omega))
  · exact h.rq.keeps K (fun k e => hnot k (by rw [h.oq k e]; omega) (by rw [h.oq k e]; omega))
  · simpa [rc] using b4.set_ 9 v4
  · exact r4.far (p := ⟨p, 9, none⟩) (fun k e => by have := ho3 k e; have := h1.lt; simp only; omega) v4
  · exact h4.1.keeps K (fun k e => hnot k (by rw [h4.2 k e]; omega) (by rw [h4.2 k e]; omega))
  · have := hv4.far (p := ⟨p, 9, none⟩) (fun k e => hv4.blk_ne b4 (by decide) k e) v4
    simp only [List.length_append]
    rw [bytesV_append]
    exact this
  · exact fun k e => .inr (ho3 k e)
  · exact fun k e => .inl ⟨h4.1.lt k e, h4.2 k e⟩
  · intro k e
    rcases ho4 k e with e1 | e1
    · exact .inl ⟨h5.1.lt k e1, h5.2 k e1⟩
    · exact .inr (by omega)
  · exact fun k e => .inl ⟨h.rq.lt k e, h.oq k e⟩
  · intro k hge
    have a := fun e => h4.1.lt k e
    have b := fun e => h5.1.lt k e
    have c := fun e => h.rq.lt k e
    have e3 := fun e => hv3.lt k e
    refine ⟨fun e => ⟨fun e1 => ?_, fun e1 => ?_, fun e1 => ?_⟩, fun e => ?_, fun e e1 => ?_⟩
    · have := a e1
      omega
    · rcases ho4 k e1 with e2 | e2
      · have := b e2
        omega
      · have := e3 e
        omega
    · have := c e1
      omega
    · have := a e
      omega
    · have := c e1
      omega
  · refine K.mono (fun g hg => ?_)
    simp only [List.mem_cons, Option.mem_toList] at hg
    rcases hg with rfl | e
    · exact hpF
    · exact h.ftag g (by rw [h5.2 g e]; omega)
set_option maxRecDepth 100000 in
set_option maxHeartbeats 2000000 in
theorem rread_any (n : Nat) (F : List Nat) (N : NS) (B k most : Int) (w : World) (h : NRep rc w n F N) (hN : OkN N B) (hB : B ≤ 1099511627776) (hmost : most ≤ 9223372036854775807) :
    Calls Try.prog 88 #[.pointer (some ⟨n, 0, none⟩), .int .i64 k, .int .i64 most] w (ReadPost rc w n F (readN N k most)) := by
  have hR := hid h
  obtain ⟨own, ps, vc, vq, h⟩ := h
  have H := hid h
  obtain ⟨i1, hi1, hy0, hy1, hy2⟩ := info_parts u8_info
  unfold readN
  by_cases hb0 : most < 1
  · rw [if_pos hb0]
    clear h hN
    go_enter Try.func88, Try.ntmps88
    go_wp2
    go_ret2
    exact ReadPost.none_ hR.out (Keeps.refl _ _)
  rw [if_neg hb0]
  have hb1 : 1 ≤ most := by omega
  have hb2 : decide (most < 1) = false := by simp; omega
  clear hb0
  rcases h.which k with hk | ⟨i, p, d, rfl, hp, hd⟩
  · rw [onConn_none hk]
    have HK := hid hk
    clear h hk hN
    go_enter Try.func88, Try.ntmps88
    go_wp2_with (go_at_call 103; refine (rours_out H.out _ HK.out).mono ?_; rintro e w1 ⟨rfl, hk⟩)
    go_ret2
    exact ReadPost.none_ hR.out hk
  · rw [onConn_some hd]
    obtain ⟨vi, vo, vt, hc⟩ := h.at_ i p d hp hd
    have hok := hN.cn d (List.mem_of_getElem? hd)
    have hin := hok.inn
    have htold := hok.told
    have HD := hid hd
    have HP := hid hp
    have HC := hid hc
    have c4 := hc.1.cell 5
    have c7 := hc.1.cell 7
    have c12 := hc.1.cell 9
    simp [rc] at c4 c7 c12
    obtain ⟨t, ht⟩ : ∃ t, oursD d = t := ⟨_, rfl⟩
    obtain ⟨v, hv⟩ : ∃ v, ptrIf t p = v := ⟨_, rfl⟩
    have HT := hid (rours_W h hp hd ht hv)
    obtain ⟨mm, hmm⟩ : ∃ mm, most.toNat = mm := ⟨_, rfl⟩
    have hmm1 : (mm : Int) = most := by omega
    rw [hmm]
    have HMM := hid hmm1
    clear h hN hok hp hd hc hmm hmm1
    unfold readD
    rw [ht]
    by_cases h0 : t = 0
    · subst h0
      simp [ptrIf] at hv
      subst hv
      rw [if_pos rfl]
      clear ht
      obtain ⟨hv, hhv⟩ : ∃ b, d.halved = b := ⟨_, rfl⟩
      rw [hhv] at c4
      obtain ⟨IA, icap, hvi, hic1, hicm, -⟩ := HC.out.2.2.1.1.form
      rw [hvi] at c7
      obtain ⟨l, hl⟩ : ∃ l, d.inn.length = l := ⟨_, rfl⟩
      rw [hl] at c7 hic1 hin
      have HL := hid hl
      have HVI := hid hvi
      have HHV := hid hhv
      have hln : d.inn = [] ↔ l = 0 := by
        rw [← hl]
        exact List.length_eq_zero_iff.symm
      by_cases hl0 : l = 0
      · have hnil := hln.2 hl0
        subst hl0
        cases hv with
        | false =>
          rw [if_pos ⟨hnil, hhv⟩]
          simp only
          rw [upd_self HD.out]
          clear hhv hvi hl hln hnil
          go_enter Try.func88, Try.ntmps88
          go_wp2_with (go_at_call 103; refine (HT.out _ (Keeps.refl _ _)).mono ?_; rintro e w1 ⟨rfl, hk⟩; have e4 := cell_keep hk (by simp) c4; have e7 := cell_keep hk (by simp) c7)
          go_ret2
          exact ReadPost.none_ hR.out hk
        | true =>
          rw [if_neg (by rintro ⟨-, h⟩; rw [hhv] at h; cases h)]
          have hself : ({ d with inn := d.inn.drop mm, told := d.told ++ d.inn.take mm } : Cn) = d := by
            rw [hnil]
            obtain ⟨x0, x1, x2, x3, x4, x5, x6, x7, x8, x9, x10, x11, x12⟩ := d
            simp at hnil
            subst hnil
            simp
          simp only
          rw [hself, upd_self HD.out, hnil, List.take_nil]
          clear hhv hvi hl hln hnil hself
          go_enter Try.func88, Try.ntmps88
          go_wp2_with (go_at_call 103; refine (HT.out _ (Keeps.refl _ _)).mono ?_; rintro e w1 ⟨rfl, hk⟩; have e4 := cell_keep hk (by simp) c4; have e7 := cell_keep hk (by simp) c7)
          go_ret2
          exact ReadPost.none_ hR.out hk
      · rw [if_neg (fun hx => hl0 (hln.1 hx.1))]
        simp only
        obtain ⟨m, hm⟩ : ∃ m, min mm l = m := ⟨_, rfl⟩
        have hml : m ≤ l := by omega
        have HTK : Hid (d.inn.take mm = d.inn.take m ∧ d.inn.drop mm = d.inn.drop m) := by
          refine hid ⟨?_, ?_⟩
          · rcases Nat.le_total mm l with h1 | h1
            · rw [← hm, Nat.min_eq_left h1]
            · rw [← hm, Nat.min_eq_right h1, List.take_of_length_le (by omega), List.take_of_length_le (by omega)]
          · rcases Nat.le_total mm l with h1 | h1
            · rw [← hm, Nat.min_eq_left h1]
            · rw [← hm, Nat.min_eq_right h1, List.drop_eq_nil_of_le (by omega), List.drop_eq_nil_of_le (by omega)]
        rw [HTK.out.1, HTK.out.2]
        have hcase : ((m : Int) = most ∧ ¬ ((l : Int) < most)) ∨ ((m : Int) = l ∧ (l : Int) < most) := by
          have := HMM.out
          omega
        obtain ⟨tl, htl⟩ : ∃ tl, d.inn.take m = tl := ⟨_, rfl⟩
        obtain ⟨dl, hdl⟩ : ∃ dl, d.inn.drop m = dl := ⟨_, rfl⟩
        have htll : tl.length = m := by rw [← htl, List.length_take]; omega
        obtain ⟨r, hr⟩ : ∃ r, l - m = r := ⟨_, rfl⟩
        have hdll : dl.length = r := by rw [← hdl, List.length_drop, hl, hr]
        have hrl : r ≤ 1024 := by omega
        rw [htl, hdl]
        have hrowp : Row w 5 1 (.slice (cutA IA 0 icap 1) m icap) m (bytesV tl) := by
          have h1 := HC.out.2.2.1.1
          rw [hvi, hl] at h1
          have h2 := (h1.cut (lo := 0) (Nat.zero_le _)).take (m := m) (by omega)
          simp only [Nat.sub_zero, Nat.zero_mul, List.drop_zero, Nat.mul_one] at h2
          rw [← htl, bytesV_take]
          exact h2
        have hrowq : Row w 5 1 (.slice (cutA IA m icap 1) r (icap - m)) r (bytesV dl) := by
          have h1 := HC.out.2.2.1.1
          rw [hvi, hl] at h1
          have h2 := h1.cut (lo := m) hml
          rw [hr, Nat.mul_one] at h2
          rw [← hdl, bytesV_drop]
          exact h2
        have HRP := hid hrowp
        have HRQ := hid hrowq
        have HTLL := hid htll
        have HDLL := hid hdll
        have HTL := hid htl
        have HDL := hid hdl
        have hic : icap ≤ 9223372036854775807 := by unfold maxLen at hicm; omega
        obtain ⟨TA, tcap, hvt, htc1, -⟩ := HC.out.2.2.2.2.1.form
        obtain ⟨tn, htn⟩ : ∃ tn, d.told.length = tn := ⟨_, rfl⟩
        rw [htn] at hvt htc1
        rw [hvt] at c12
        have htn2 : (tn : Int) ≤ B := by rw [← htn]; exact htold
        have HTN := hid htn
        have HVT := hid hvt
        have hlb : ((l : Int) == 0) = false := by simp; omega
        have hml2 : m ≤ 1024 := by omega
        have hlc : m ≤ l := hml
        have hmic : m ≤ icap := by omega
        have hmin : ∀ (ts : Array TypeId) (t : TypeId) (wx : World), (Builtin.min_ ts t #[.int .i64 most, .int .i64 (l : Int)]).run Try.prog wx = .ok (.int .i64 (m : Int)) wx := by
          intro ts t wx
          rw [run_min_int2]
          rcases hcase with ⟨h1, h2⟩ | ⟨h1, h2⟩
          · rw [if_neg h2, h1]
          · rw [if_pos h2, h1]
        have hsl := fun wx => run_cut_hi (P := Try.prog) wx 66 5 i1 1 Try.underlying66 hi1 hy1 IA l icap m (m : Int) rfl .i64 (by omega)
        have hsl2 := fun wx => run_cut_lo (P := Try.prog) wx 66 5 i1 1 Try.underlying66 hi1 hy1 IA l icap m (m : Int) rfl .i64 hml
        rw [hr] at hsl2
        clear hhv hvi hl hln hl0 hm htl hdl htll hdll hr hrowp hrowq hcase hvt htn htold
        go_enter Try.func88, Try.ntmps88
        go_wp2_with (first
          | (go_at_call 103; refine (HT.out _ (Keeps.refl _ _)).mono ?_; rintro e w1 ⟨rfl, hk⟩; have e4 := cell_keep hk (by simp) c4; have e7 := cell_keep hk (by simp) c7; have e12 := cell_keep hk (by simp) c12; have HK1 := hid hk; have HRP1 := hid (HRP.out.reads.keeps hk (by simp)); have HRQ1 := hid (HRQ.out.keeps hk (by simp)); have m7 := (fun o => alloc_cell e7 o); clear hk)
          | (at_builtin; refine wpList_append_row _ rfl (.tmp 40) (.tmp 46) _ rfl 5 i1 _ 1 1 Try.underlying66 hi1 hy0 hy1 hy2 rfl (by omega) (.slice (some ⟨w1.heap.size, 0, none⟩) 0 0) 0 [] rfl (Row.empty w1 _) (cutA IA 0 icap 1) m icap (bytesV tl) rfl (HRP1.out.alloc _) (bytesV_one _) (by simp only [maxLen]; omega) (by omega) ?_; intro v2 w2 hv2 hk2 ho2; rw [Nat.zero_add, List.nil_append] at hv2; obtain ⟨A2, q2, rfl, -⟩ := hv2.form; have hk2' := rnew_keeps hk2; have ho2' := rnew_own ho2; have b7 := cell_keep hk2' (by simp) e7; have b12 := cell_keep hk2' (by simp) e12; have HRQ2 := hid (HRQ1.out.keeps hk2' (by simp)); have m72 := (fun o => alloc_cell b7 o); have HV2 := hid hv2; have HO2 := hid ho2'; have HK2 := hid hk2'; clear hv2 hk2 ho2 hk2' ho2')
          | (at_builtin; refine wpList_append_row _ rfl (.tmp 49) (.tmp 55) _ rfl 5 i1 _ 1 1 Try.underlying66 hi1 hy0 hy1 hy2 rfl (by omega) (.slice (some ⟨w2.heap.size, 0, none⟩) 0 0) 0 [] rfl (Row.empty w2 _) (cutA IA m icap 1) r (icap - m) (bytesV dl) rfl (HRQ2.out.reads.alloc _) (bytesV_one _) (by simp only [maxLen]; omega) (by omega) ?_; intro v3 w3 hv3 hk3 ho3; rw [Nat.zero_add, List.nil_append] at hv3; obtain ⟨A3, q3, rfl, -⟩ := hv3.form; have hk3' := rnew_keeps hk3; have ho3' := rnew_own ho3; have hk03 : Keeps [] w w3 := ((HK1.out.trans HK2.out (by simp)).trans hk3' (by simp)); have d7 := cell_keep hk3' (by simp) b7; have d12 := cell_keep hk3' (by simp) b12; have k7 := (HC.out.1.keeps hk03 (by simp)).frozen 7; have k9 := (HC.out.1.keeps hk03 (by simp)).frozen 9; have hbp := HC.out.1.keeps hk03 (by simp); have htr := HC.out.2.2.2.2.1.keeps hk03 (by simp); rw [HTN.out, HVT.out] at htr; have HTR := hid (htr.far (p := ⟨p, 7, none⟩) (fun k e => htr.blk_ne hbp (by decide) k e) (.slice A3 r q3)); have hv23 := HV2.out.keeps hk3' (by simp); have HVR := hid (hv23.far (p := ⟨p, 7, none⟩) (fun k e => hv23.blk_ne hbp (by decide) k e) (.slice A3 r q3)); have HV3 := hid hv3; have HO3 := hid ho3'; have HK3 := hid hk3'; clear hv3 hk3 ho3 hk3' ho3' hbp htr hv23 hk03)
          | (at_builtin; refine wpList_append_row _ rfl (.tmp 63) (.tmp 64) _ rfl 5 i1 _ 1 1 Try.underlying66 hi1 hy0 hy1 hy2 rfl (by omega) (.slice TA tn tcap) tn (bytesV d.told) rfl HTR.out A2 m q2 (bytesV tl) rfl HVR.out.reads (bytesV_one _) (by simp only [maxLen]; omega) (by omega) ?_; intro v4 w4 hv4 hk4 ho4; obtain ⟨A4, q4, rfl, -⟩ := hv4.form; have hk03 : Keeps [] w w3 := ((HK1.out.trans HK2.out (by simp)).trans HK3.out (by simp)); have hpt : p ∉ (Value.slice TA tn tcap).ownBlock.toList := (by rw [← HVT.out]; exact pnot (i := i) (vi := vi) (vo := vo) (vt := vt) HC.out.2.2.2.2.2 (by rw [HC.out.2.1]; omega)); have b4 := ((HC.out.1.keeps hk03 (by simp)).set_ 7 (.slice A3 r q3)).keeps hk4 hpt; have j9 := b4.cell 9; have j9f := b4.frozen 9; simp [rc] at j9; have HV4 := hid hv4; have HK4 := hid hk4; have HO4 := hid ho4; clear b4 hpt hv4 hk4 ho4 hk03))
        go_ret2
        have hk12 := HK1.out.trans HK2.out (by simp)
        have hdone := rread_done (w := w2) (m := m) (l := r) (dl := dl) (tl := tl) (v3 := .slice A3 r q3) (v4 := .slice A4 (tn + m) q4) (H.out.keeps hk12 (by simp)) HP.out (HC.out.keeps hk12 (by simp)) HDLL.out HTLL.out HV3.out HK3.out HO3.out (by rw [HTN.out]; exact HV4.out) (by rw [HVT.out]; exact HK4.out) (by
          intro k hk
          rcases HO4.out k hk with h | h
          · exact .inl (by rw [HVT.out]; exact h)
          · exact .inr (by simpa [World.setCell] using h))
        obtain ⟨⟨F', g1, g2⟩, g3⟩ := hdone
        have hz1 := HK1.out.size
        have hz2 := HK2.out.size
        have h2lt := HV2.out.lt
        have hpF : p ∈ F := H.out.ftag p (by rw [HC.out.2.1]; omega)
        refine ⟨.slice A2 m q2, F', rfl, g1, fun k hk => ?_, (hk12.mono (by simp)).trans g3 (fun g hg => .inl hg), ?_, fun k hk => ⟨?_, fun hx => ?_⟩⟩
        · rcases g2 k hk with e | e
          · exact .inl e
          · exact .inr (by omega)
        · rw [HTLL.out]
          have hv4own := HV4.out.lt
          have a0 := HVR.out.keeps HK4.out (fun k e hx => by
            have a1 := HO2.out k e
            have a2 := HC.out.2.2.2.2.1.lt k (by rw [HVT.out]; simpa using hx)
            omega)
          exact a0.far (p := ⟨p, 9, none⟩) (fun k e => by
            have a1 := HO2.out k e
            have a2 := H.out.flt p hpF
            simp only
            omega) _
        · have := HO2.out k hk
          omega
        · rcases g2 k hx with e | e
          · have a1 := HO2.out k hk
            have a2 := H.out.flt k e
            omega
          · have := h2lt k hk
            omega
    · rw [if_neg h0]
      simp only
      rw [upd_self HD.out]
      simp [ptrIf, h0] at hv
      subst hv
      have HT0 := hid ht
      have hne : (t == 0) = false := by simp [h0]
      have hne2 : (t != 0) = true := by simp [h0]
      clear h0 ht
      go_enter Try.func88, Try.ntmps88
      go_wp2_with (go_at_call 103; refine (HT.out _ (Keeps.refl _ _)).mono ?_; rintro e w1 ⟨rfl, hk⟩)
      go_ret2
      exact ReadPost.none_ hR.out hk
end Go.Proofs.Ytkeffebcmajhmaa
/- The reference's net: Close by contract. -/
namespace Go.Proofs.Ytkeffebcmajhmaa
open Go.RowKit
set_option linter.unusedVariables false
set_option linter.unusedSimpArgs false
set_option maxRecDepth 100000 in
set_option maxHeartbeats 8000000 in
theorem rclose_any (n : Nat) (F : List Nat) (N : NS) (B : Int) (cv : Value) (l : List Int) (w : World) (h : NRep rc w n F N) (hN : OkN N B) (hr : CellsIn w F cv (l.map (.int .i64))) (hl : l.length ≤ 1099511627776) :
    Calls Try.prog 91 #[.pointer (some ⟨n, 0, none⟩), cv] w fun e w' => e = .returned (.int .i64 (closeN N l).2) ∧ NDone rc w n F (closeN N l).1 w' := by
  obtain ⟨own, ps, vc, vq, h⟩ := h
  have H := hid h
  have HOK := hid hN
  have HR := hid hr
  obtain ⟨A, c, rfl, h1, h2⟩ := hr.shape
  simp only [List.length_map] at h1 HR ⊢
  have hnF : n ∈ F := h.ftag n (by rw [h.tn]; omega)
  clear hr h hN
  go_enter Try.func91, Try.ntmps91
  go_wp2_with fail
  go_loopw [5, 6] (fun many j wr => ∃ k : Nat, k ≤ l.length ∧ j = .int .i64 k ∧ many = .int .i64 (closeN N (l.take k)).2 ∧ 0 ≤ (closeN N (l.take k)).2 ∧ (closeN N (l.take k)).2 ≤ k ∧ NAt rc wr n F own ps vc vq (closeN N (l.take k)).1 ∧ Keeps F w wr) (fun _ j _ => l.length - (intOf j).toNat)
  case atStart => exact ⟨0, Nat.zero_le _, rfl, rfl, by simp [closeN], by simp [closeN], by simpa [closeN] using H.out, Keeps.refl _ _⟩
  case round =>
    obtain ⟨k, hk, rfl, rfl, hm0, hm1, hS, hkp⟩ := hrel
    have HS := hid hS
    have HKP := hid hkp
    clear hS hkp
    by_cases hlt : k < l.length
    · obtain ⟨b, o, rfl, hbF, hc⟩ := HR.out.at_ (by simp; omega)
      have c0 := cell_keep HKP.out hbF (hc k (.int .i64 (l[k])) (by simp [hlt]))
      have hki : (k : Int) < l.length := by omega
      obtain ⟨x, hx⟩ : ∃ x, l[k] = x := ⟨_, rfl⟩
      have HNX : Hid (l.take (k + 1) = l.take k ++ [x]) := by
        rw [List.take_add_one, List.getElem?_eq_getElem hlt, hx]
        exact hid rfl
      rw [hx] at c0
      have hok : OkN (closeN N (l.take k)).1 B := okN_close _ HOK.out
      have HSN := hid (closeN_snoc (l.take k) x N)
      obtain ⟨NK, hNK⟩ : ∃ r, closeN N (l.take k) = r := ⟨_, rfl⟩
      rw [hNK] at HS HSN hm0 hm1 hok ⊢
      obtain ⟨Nk, mk⟩ := NK
      have HE := hid hNK
      simp only at HS HSN hm0 hm1 hok ⊢
      have n1 := HS.out.blk.cell 1
      simp [rc] at n1
      clear hc hx hNK
      rcases HS.out.which x with hxk | ⟨i, p, d, rfl, hp, hd⟩
      · have HX := hid hxk
        have HC1 : Hid (close1 Nk x = (Nk, 0)) := by
          unfold close1
          rw [cnAt_none hxk]
          exact hid rfl
        obtain ⟨CA, ccap, hvc, -⟩ := HS.out.rc.form
        rw [hvc] at n1
        have HVC := hid hvc
        clear hvc
        have hdc : decide (0 ≤ x) = false ∨ (decide (0 ≤ x) = true ∧ decide (x < (Nk.cs.length : Int)) = false) := by
          rcases hxk with h | ⟨h1, h2⟩
          · exact .inl (by simp; omega)
          · exact .inr ⟨by simpa using h1, by simp; omega⟩
        clear hxk
        rcases hdc with d0 | ⟨d0, d1⟩
        all_goals
          go_wp2_with fail
          go_quiet (fail)
          go_wp2_with fail
          go_roundw
          case rel => exact ⟨k + 1, by omega, by go_num, by rw [HNX.out, HSN.out, HC1.out]; simp, by rw [HNX.out, HSN.out, HC1.out]; simp; omega, by rw [HNX.out, HSN.out, HC1.out]; simp; omega, by rw [HNX.out, HSN.out, HC1.out]; exact HS.out.keeps ((Keeps.refl [] wr).drewN _) (by simp), HKP.out.drewN _⟩
          case measure => simp [intOf] <;> omega
      · obtain ⟨p', b', off, ccap, hp', hvc, hkl, hle, hccm, hcell, hbn, vi, vo, vt, hcat⟩ := HS.out.conn hd
        rw [hp] at hp'
        injection hp' with hp'
        subst hp'
        rw [hvc] at n1
        have c2 := hcat.1.cell 2
        have f2 := hcat.1.frozen 2
        simp [rc] at c2
        have hpn : p ≠ n := fun e => by
          have a := HS.out.tn
          have b := hcat.2.1
          rw [← e, b] at a
          omega
        have hnp : n ≠ p := Ne.symm hpn
        have hbp : b' ≠ p := fun e => by
          have a1 := HS.out.oc b' (by rw [hvc]; simp [Value.ownBlock])
          have a2 := hcat.2.1
          rw [← e, a1] at a2
          omega
        have HP := hid hp
        have HD := hid hd
        have HC := hid hcat
        have HVC := hid hvc
        have hpF : p ∈ F := HS.out.ftag p (by rw [hcat.2.1]; omega)
        obtain ⟨bo, hbo⟩ : ∃ b, d.opn = b := ⟨_, rfl⟩
        rw [hbo] at c2
        have hii : (i : Int) < Nk.cs.length := by omega
        have d0 : decide (0 ≤ (i : Int)) = true := by simp
        have d1 : decide ((i : Int) < (Nk.cs.length : Int)) = true := by simpa using hii
        cases bo with
        | false =>
          have HC1 : Hid (close1 Nk i = (Nk, 0)) := by
            unfold close1
            rw [cnAt_some hd]
            simp only
            rw [if_neg (by rw [hbo]; simp)]
            exact hid rfl
          clear hp hd hcat hbo hok hvc
          go_wp2_with fail
          go_quiet (fail)
          go_wp2_with fail
          go_roundw
          case rel => exact ⟨k + 1, by omega, by go_num, by rw [HNX.out, HSN.out, HC1.out]; simp, by rw [HNX.out, HSN.out, HC1.out]; simp; omega, by rw [HNX.out, HSN.out, HC1.out]; simp; omega, by rw [HNX.out, HSN.out, HC1.out]; exact HS.out.keeps ((Keeps.refl [] wr).drewN _) (by simp), HKP.out.drewN _⟩
          case measure => simp [intOf] <;> omega
        | true =>
          have HC1 : Hid (close1 Nk i = ({ Nk with cs := Nk.cs.set i { d with opn := false }, nopen := Nk.nopen - 1 }, 1)) := by
            unfold close1
            rw [cnAt_some hd]
            simp only
            rw [if_pos hbo]
            exact hid rfl
          clear hp hd hcat hbo hok hvc
          go_wp2_with fail
          go_quiet (fail)
          go_wp2_with fail
          go_region_law (fail)
          all_goals
            go_wp2_with fail
            go_roundw
            case rel =>
              have hkk : Keeps [n, p] wr (wr.setCell ⟨p, 2, none⟩ (.bool false)) := (Keeps.refl [n, p] wr).setCell (p := ⟨p, 2, none⟩) (.inl (by simp)) _
              have hall : NAt rc (wr.setCell ⟨p, 2, none⟩ (.bool false)) n F own ps vc vq { Nk with cs := Nk.cs.set i { d with opn := false }, nopen := Nk.nopen - 1 } := by
                refine HS.out.fix (d' := { d with opn := false }) (vi := vi) (vo := vo) (vt := vt) HP.out rfl rfl hkk (by simp) ?_ ⟨?_, HC.out.2.1, ?_, ?_, ?_⟩
                · simpa [rc] using HS.out.blk.far (p := ⟨p, 2, none⟩) hnp (.bool false)
                · simpa [rc] using HC.out.1.set_ 2 (.bool false)
                all_goals
                  have a := HC.out.2.1
                  have b := HS.out.tn
                  refine BRow.keeps (K := [n, p]) ?_ hkk (fun k hk hx => by simp at hx; rcases hx with rfl | rfl <;> omega)
                · exact HC.out.2.2.1
                · exact HC.out.2.2.2.1
                · exact HC.out.2.2.2.2
              have hkf : Keeps F w (wr.setCell ⟨p, 2, none⟩ (.bool false)) := HKP.out.setCell (p := ⟨p, 2, none⟩) (.inl hpF) _
              refine ⟨k + 1, by omega, by go_num, by rw [HNX.out, HSN.out, HC1.out], by rw [HNX.out, HSN.out, HC1.out]; simp; omega, by rw [HNX.out, HSN.out, HC1.out]; simp; omega, ?_, ?_⟩
              · rw [HNX.out, HSN.out, HC1.out]
                exact hall.keeps (K := []) ⟨rfl, rfl, rfl, Nat.le_refl _, fun _ _ _ => rfl⟩ (by simp)
              · exact ⟨hkf.os, hkf.tape, hkf.output, hkf.size, hkf.block⟩
            case measure => simp [intOf] <;> omega
    · have hkl : k = l.length := by omega
      subst hkl
      rw [List.take_length] at HS ⊢
      go_wp2_with fail
      go_ret
      exact ⟨rfl, ⟨F, ⟨own, ps, vc, vq, HS.out⟩, fun k hk => .inl hk⟩, HKP.out⟩
end Go.Proofs.Ytkeffebcmajhmaa
