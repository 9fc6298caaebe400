/- The reference's net: Send by contract. -/
import Derived.Test.YtkeffebcmajhmaaPq13
namespace Go.Proofs.Ytkeffebcmajhmaa
open Go.RowKit
set_option linter.unusedVariables false
set_option linter.unusedSimpArgs false
/-- a connection in the midst of a Send. -/
def rSendSt (w0 wr : World) (p : Nat) (d : Cn) (vi vo vt vi' : Value) (cur : List Int) : Prop :=
  Blk wr p rc.T (rc.lay { d with inn := cur } vi' vo vt) ∧ Row wr 5 1 vi' cur.length (bytesV cur) ∧ (∀ k, vi'.ownBlock = some k → vi.ownBlock = some k ∨ w0.heap.size ≤ k) ∧ Keeps (p :: vi.ownBlock.toList) w0 wr
theorem rSendSt.step {w0 wr w5 : World} {p : Nat} {d : Cn} {vi vo vt vi' v5 : Value} {cur add : List Int} {m : Nat} (h : rSendSt w0 wr p d vi vo vt vi' cur) (hm : add.length = m) (hv : Row w5 5 1 v5 (cur.length + m) (bytesV cur ++ bytesV add)) (hk : Keeps vi'.ownBlock.toList wr w5) (ho : ∀ k, v5.ownBlock = some k → vi'.ownBlock = some k ∨ wr.heap.size ≤ k) (hp : p ∉ vi'.ownBlock.toList) :
    rSendSt w0 (w5.setCell ⟨p, 7, none⟩ v5) p d vi vo vt v5 (cur ++ add) := by
  obtain ⟨h1, h2, h3, h4⟩ := h
  subst hm
  have hz := h4.size
  have b5 := h1.keeps hk hp
  refine ⟨by simpa [rc] using b5.set_ 7 v5, ?_, fun k e => ?_, ?_⟩
  · have := hv.far (p := ⟨p, 7, none⟩) (fun k e => hv.blk_ne b5 (by decide) k e) v5
    rw [List.length_append, bytesV_append]
    exact this
  · rcases ho k e with e1 | e1
    · exact h3 k e1
    · exact .inr (by omega)
  · refine (h4.trans hk (fun g hg => ?_)).setCell (p := ⟨p, 7, none⟩) (.inl (by simp)) _
    rcases h3 g (by simpa using hg) with e | e
    · exact .inl (by simp [e])
    · exact .inr e
theorem rsend_done {w w1 w' wr : World} {n i p : Nat} {F : List Nat} {own : Nat → Nat} {ps : List Nat} {vc vq vi vo vt vi' : Value} {N : NS} {d d' : Cn} {cur : List Int} (h : NAt rc w1 n F own ps vc vq N) (hk1 : Keeps [] w w1) (hp : ps[i]? = some p) (hd : N.cs[i]? = some d) (hc : CAt rc w1 own i p d vi vo vt)
    (hs : rSendSt w1 wr p d vi vo vt vi' cur) (hk : Keeps [p] wr w') (hb : Blk w' p rc.T (rc.lay d' vi' vo vt)) (hi : d'.inn = cur) (hg : d'.got = d.got) (ht : d'.told = d.told) : NDone rc w n F (N.upd i d') w' := by
  refine NDone.after h hk1 ?_
  obtain ⟨h1, h2, h3, h4, h5⟩ := hc
  obtain ⟨s1, s2, s3, s4⟩ := hs
  have hpF : p ∈ F := h.ftag p (by omega)
  have K : Keeps (p :: vi.ownBlock.toList) w1 w' := s4.trans hk (fun g hg => by simp at hg; subst hg; exact .inl (by simp))
  have hnot : ∀ k, own k ≠ 4 * i + 4 → own k ≠ 4 * i + 5 → k ∉ p :: vi.ownBlock.toList := fun k a b hx => by
    simp only [List.mem_cons, Option.mem_toList] at hx
    rcases hx with rfl | e
    · exact a h2
    · exact b (h3.2 k e)
  have hvi : Row w' 5 1 vi' cur.length (bytesV cur) := s2.keeps hk (fun k e hx => by simp at hx; exact s2.blk_ne s1 (by decide) k e hx)
  refine ⟨h.put (G := p :: vi.ownBlock.toList) (d' := d') (vi := vi') (vo := vo) (vt := vt) (vq' := vq) hp rfl K ?_ h2 h1.lt ?_ ?_ hb ?_ ?_ ?_ ?_ ?_ ?_ ?_ ?_, ?_⟩
  · intro k hk' _
    simp only [List.mem_cons, Option.mem_toList] at hk'
    rcases hk' with rfl | e
    · omega
    · have := h3.2 k e
      omega
  · exact h.blk.keeps K (hnot n (by rw [h.tn]; omega) (by rw [h.tn]; omega))
  · exact h.rq.keeps K (fun k e => hnot k (by rw [h.oq k e]; omega) (by rw [h.oq k e]; omega))
  · rw [hi]
    exact hvi
  · rw [hg]
    exact h4.1.keeps K (fun k e => hnot k (by rw [h4.2 k e]; omega) (by rw [h4.2 k e]; omega))
  · rw [ht]
    exact h5.1.keeps K (fun k e => hnot k (by rw [h5.2 k e]; omega) (by rw [h5.2 k e]; omega))
  · intro k e
    rcases s3 k e with e1 | e1
    · exact .inl ⟨h3.1.lt k e1, h3.2 k e1⟩
    · exact .inr e1
  · exact fun k e => .inl ⟨h4.1.lt k e, h4.2 k e⟩
  · exact fun k e => .inl ⟨h5.1.lt k e, h5.2 k e⟩
  · exact fun k e => .inl ⟨h.rq.lt k e, h.oq k e⟩
  · intro k hge
    have a := fun e => h4.1.lt k e
    have b := fun e => h5.1.lt k e
    have c := fun e => h.rq.lt k e
    refine ⟨fun e => ⟨fun e1 => ?_, fun e1 => ?_, fun e1 => ?_⟩, fun e => ?_, fun e => ?_⟩
    · have := a e1
      omega
    · have := b e1
      omega
    · have := c e1
      omega
    · have := a e
      omega
    · have := b e
      omega
  · refine K.mono (fun g hg => ?_)
    simp only [List.mem_cons, Option.mem_toList] at hg
    rcases hg with rfl | e
    · exact hpF
    · exact h.ftag g (by rw [h3.2 g e]; omega)
set_option maxRecDepth 100000 in
set_option maxHeartbeats 2000000 in
theorem rsend_any (n : Nat) (F : List Nat) (N : NS) (B k : Int) (pv : Value) (rows : List (Value × List Int)) (w : World) (h : NRep rc w n F N) (hN : OkN N B) (hB : B ≤ 1099511627776) (hr : RowsIn w F pv rows) :
    Calls Try.prog 81 #[.pointer (some ⟨n, 0, none⟩), .int .i64 k, pv] w fun e w' => e = .returned (.tuple #[.int .i64 (sendN N k (rows.map (·.2))).2.1, .int .i64 (sendN N k (rows.map (·.2))).2.2]) ∧ NDone rc w n F (sendN N k (rows.map (·.2))).1 w' := by
  have hR := hid h
  obtain ⟨own, ps, vc, vq, h⟩ := h
  have H := hid h
  obtain ⟨i1, hi1, hy0, hy1, hy2⟩ := info_parts u8_info
  unfold sendN
  rcases h.which k with hk | ⟨i, p, d, rfl, hp, hd⟩
  · rw [onConn_none hk]
    have HK := hid hk
    clear h hk hN hr
    simp only
    go_enter Try.func81, Try.ntmps81
    go_wp2_with (go_at_call 101; refine (rtheirs_out H.out _ HK.out).mono ?_; rintro e w1 ⟨rfl, hk⟩)
    go_ret2
    exact ⟨rfl, NDone.same hR.out hk⟩
  · rw [onConn_some hd]
    obtain ⟨vi, vo, vt, hc⟩ := h.at_ i p d hp hd
    have hok := hN.cn d (List.mem_of_getElem? hd)
    have hr0 := hok.r0
    have hr1 := hok.r1
    have hin := hok.inn
    have HD := hid hd
    have HP := hid hp
    have HC := hid hc
    have c4 := hc.1.cell 5
    simp [rc] at c4
    have hpF : p ∈ F := h.ftag p (by rw [hc.2.1]; omega)
    have hviF : ∀ g, vi.ownBlock = some g → g ∈ F := fun g e => h.ftag g (by rw [hc.2.2.1.2 g e]; omega)
    have HVF := hid hviF
    obtain ⟨t, ht⟩ : ∃ t, theirsD d = t := ⟨_, rfl⟩
    obtain ⟨v, hv⟩ : ∃ v, ptrIf t p = v := ⟨_, rfl⟩
    have HT := hid (rtheirs_W h hp hd ht hv)
    have HRW := hid hr
    obtain ⟨PA, pcap, hpv, hpc1, hpc2⟩ := hr.1.shape
    have hlr : (rows.map (·.1)).length = rows.length := by simp
    rw [hlr] at hpv hpc1
    subst hpv
    clear h hN hok hp hd hc hr hviF hlr
    unfold sendD
    rw [ht]
    by_cases h0 : t = 0
    · subst h0
      simp [ptrIf] at hv
      subst hv
      rw [if_pos rfl]
      clear ht
      obtain ⟨hv, hhv⟩ : ∃ b, d.halved = b := ⟨_, rfl⟩
      rw [hhv] at c4
      cases hv with
      | true =>
        rw [if_pos hhv]
        simp only
        rw [upd_self HD.out]
        clear hhv
        go_enter Try.func81, Try.ntmps81
        go_wp2_with (go_at_call 101; refine (HT.out _ (Keeps.refl _ _)).mono ?_; rintro e w1 ⟨rfl, hk⟩; have e4 := cell_keep hk (by simp) c4)
        go_ret2
        exact ⟨rfl, NDone.same hR.out hk⟩
      | false =>
        rw [if_neg (by rw [hhv]; simp)]
        simp only
        have HHV := hid hhv
        obtain ⟨TOT, hTOT⟩ : ∃ T, poured d.inn (rows.map (·.2)) = T := ⟨_, rfl⟩
        have hTOT' : (d.inn ++ (rows.map (·.2)).flatten).take 1024 = TOT := hTOT
        rw [hTOT']
        have HTOT := hid hTOT
        obtain ⟨D', hD'⟩ : ∃ D' : Cn, ({ d with inn := TOT, reads := if 0 < TOT.length - d.inn.length then d.reads + 1 else d.reads } : Cn) = D' := ⟨_, rfl⟩
        rw [hD']
        have HD' := hid hD'
        clear hhv hTOT hTOT' hD'
        go_enter Try.func81, Try.ntmps81
        go_wp2_with (go_at_call 101; refine (HT.out _ (Keeps.refl _ _)).mono ?_; rintro e w1 ⟨rfl, hk⟩; have e4 := cell_keep hk (by simp) c4; have HK1 := hid hk; have hz1 := hk.size; clear hk)
        have hst : rSendSt w1 w1 p d vi vo vt vi (poured d.inn []) := by
          rw [poured_nil _ hin]
          refine ⟨HC.out.1.keeps HK1.out (by simp), HC.out.2.2.1.1.keeps HK1.out (by simp), fun k e => .inl e, Keeps.refl _ _⟩
        have HST0 := hid hst
        have HC1 := hid (HC.out.keeps HK1.out (by simp))
        have HRW1 := hid (HRW.out.keeps HK1.out (by simp))
        clear hst
        go_loopw [10, 11, 12] (fun many j _ wr => ∃ (k : Nat) (vi' : Value), k ≤ rows.length ∧ j = .int .i64 k ∧ many = .int .i64 (((poured d.inn ((rows.take k).map (·.2))).length - d.inn.length : Nat) : Int) ∧ rSendSt w1 wr p d vi vo vt vi' (poured d.inn ((rows.take k).map (·.2)))) (fun _ j _ _ => rows.length - (intOf j).toNat)
        case atStart => exact ⟨0, vi, Nat.zero_le _, rfl, by simp [poured_nil _ hin], by simpa using HST0.out⟩
        case round =>
          obtain ⟨k, vi', hk, rfl, hmany, hS⟩ := hrel
          subst hmany
          have HS := hid hS
          obtain ⟨cur, hcur⟩ : ∃ cur, poured d.inn ((rows.take k).map (·.2)) = cur := ⟨_, rfl⟩
          have hcl : cur.length ≤ 1024 := by rw [← hcur]; exact poured_len _ _
          have hcg : d.inn.length ≤ cur.length := by rw [← hcur]; exact poured_ge _ _ hin
          rw [hcur] at HS ⊢
          have HCUR := hid hcur
          have c7 := HS.out.1.cell 7
          have f7 := HS.out.1.frozen 7
          have c9 := HS.out.1.cell 11
          have f9 := HS.out.1.frozen 11
          simp [rc] at c7 c9
          obtain ⟨IA, icap, rfl, -, hicm, -⟩ := HS.out.2.1.form
          clear hS hcur
          by_cases hlt : k < rows.length
          · obtain ⟨⟨rv, rb⟩, hrow⟩ : ∃ r, rows[k]? = some r := ⟨rows[k], List.getElem?_eq_getElem hlt⟩
            have hrc := HRW1.out.2 _ (List.mem_of_getElem? hrow)
            obtain ⟨pb, po, rfl, hpb, hpc⟩ := HRW1.out.1.at_ (by simp; omega)
            have hsub : ∀ g ∈ p :: vi.ownBlock.toList, g ∈ F := fun g hg => by
              simp only [List.mem_cons, Option.mem_toList] at hg
              rcases hg with rfl | e
              · exact hpF
              · exact HVF.out g e
            have q0 := cell_keep HS.out.2.2.2 (fun hx => hpb (hsub _ hx)) (hpc k rv (by simp [hrow]))
            have HRC := hid (hrc.keeps HS.out.2.2.2 (fun g hg => .inl (hsub g hg)))
            obtain ⟨RA, rcap, hrv, hrc1, hrc2⟩ := hrc.shape
            simp only [bytesV_length] at hrv hrc1
            subst hrv
            have HROW := hid hrow
            have hki : (k : Int) < rows.length := by omega
            obtain ⟨m, hm⟩ : ∃ m, min rb.length (1024 - cur.length) = m := ⟨_, rfl⟩
            have hmr : m ≤ rb.length := by omega
            have hm1 : m ≤ 1024 - cur.length := by omega
            have hw1 : IntKind.i64.wrap (1024 - (cur.length : Int)) = 1024 - (cur.length : Int) := IntWalk.i64_in _ (by omega)
            have HNX : Hid (poured d.inn ((rows.take (k + 1)).map (·.2)) = cur ++ rb.take m) := by
              have h1 : rows.take (k + 1) = rows.take k ++ [(.slice RA rb.length rcap, rb)] := by rw [List.take_add_one, HROW.out]; rfl
              rw [h1, List.map_append]
              simp only [List.map_cons, List.map_nil]
              rw [poured_snoc, HCUR.out, hm]
              exact hid rfl
            have htl : (rb.take m).length = m := by rw [List.length_take]; omega
            have HTL := hid htl
            have hpn : p ∉ (Value.slice IA cur.length icap).ownBlock.toList := fun hx => HS.out.2.1.blk_ne HS.out.1 (by decide) p (by simpa using hx) rfl
            have HPN := hid hpn
            have hrd : Reads wr 1 (cutA RA 0 rcap 1) m (bytesV (rb.take m)) := by
              have h1 := (HRC.out.cut (lo := 0) (hi := m) (Nat.zero_le _) hmr).reads.2
              simp only [Nat.sub_zero, List.drop_zero] at h1
              rw [bytesV_take]
              exact h1
            have HRD := hid hrd
            have hcase : ((m : Int) = rb.length ∧ ¬ (1024 - (cur.length : Int) < rb.length)) ∨ ((m : Int) = 1024 - (cur.length : Int) ∧ 1024 - (cur.length : Int) < rb.length) := by omega
            clear htl hpn hrd hrow hpc hrc hm
            have hic : icap ≤ 9223372036854775807 := by unfold maxLen at hicm; omega
            have hmin : ∀ (ts : Array TypeId) (t : TypeId) (wx : World), (Builtin.min_ ts t #[.int .i64 (rb.length : Int), .int .i64 (1024 - (cur.length : Int))]).run Try.prog wx = .ok (.int .i64 (m : Int)) wx := by
              intro ts t wx
              rw [run_min_int2]
              rcases hcase with ⟨h1, h2⟩ | ⟨h1, h2⟩
              · rw [if_neg h2, h1]
              · rw [if_pos h2, h1]
            have hsl := fun wx => run_cut_hi (P := Try.prog) wx 66 5 i1 1 Try.underlying66 hi1 hy1 RA rb.length rcap m (m : Int) rfl .i64 (by omega)
            have hcm : (cur.length : Int) + m ≤ 1024 := by omega
            clear hcase
            go_wp2_with fail
            go_region_law (fail)
            all_goals
              go_wp2_with fail
              go_region_law (first
                | (refine step_append_row _ (by rfl) _ _ _ (by rfl) 5 i1 _ 1 1 Try.underlying66 hi1 hy0 hy1 hy2 rfl (by omega) (.slice IA cur.length icap) cur.length _ (by rfl) (by exact HS.out.2.1) (cutA RA 0 rcap 1) m rcap (bytesV (rb.take m)) (by rfl) (by exact HRD.out) (bytesV_one _) (by simp only [maxLen]; omega) (by omega) ?_; intro v5 w5 hv5 hk5a ho5a; have hk5 : Keeps (Value.slice IA cur.length icap).ownBlock.toList wr w5 := (⟨hk5a.os, hk5a.tape, hk5a.output, hk5a.size, hk5a.block⟩); have ho5 : ∀ j, v5.ownBlock = some j → (Value.slice IA cur.length icap).ownBlock = some j ∨ wr.heap.size ≤ j := (by exact ho5a); obtain ⟨A5, q5, rfl, -⟩ := hv5.form; have b5 := HS.out.1.keeps hk5 HPN.out; have g7 := b5.cell 7; have k7 := b5.frozen 7; simp [rc] at g7; have HV5 := hid hv5; have HK5 := hid hk5; have HO5 := hid ho5; clear b5 hv5 hk5 ho5 hk5a ho5a))
              all_goals
                go_wp2_with fail
                go_roundw
                case rel =>
                  refine ⟨k + 1, .slice A5 (cur.length + m) q5, by omega, by go_num, ?_, ?_⟩
                  · rw [HNX.out, List.length_append, HTL.out]
                    have : ((cur.length - d.inn.length : Nat) : Int) + (m : Int) = ((cur.length + m - d.inn.length : Nat) : Int) := by omega
                    rw [this]
                  · rw [HNX.out]
                    have h8 := HS.out.step (add := rb.take m) HTL.out HV5.out HK5.out HO5.out HPN.out
                    exact ⟨by (repeat (first | exact h8.1 | apply Blk.drew | apply Blk.drewN)), by (repeat (first | exact h8.2.1 | apply Row.drew | apply Row.drewN)), h8.2.2.1, by (repeat (first | exact h8.2.2.2 | apply Keeps.drew | apply Keeps.drewN))⟩
                case measure => simp [intOf] <;> omega
          · have hkl : k = rows.length := by omega
            subst hkl
            have hct : cur = TOT := by rw [← HCUR.out, ← HTOT.out, List.take_length]
            subst hct
            have hw1 : IntKind.i64.wrap (d.reads + 1) = d.reads + 1 := IntWalk.i64_in _ (by omega)
            obtain ⟨many, hmany⟩ : ∃ m, cur.length - d.inn.length = m := ⟨_, rfl⟩
            rw [hmany]
            have HM := hid hmany
            clear hmany
            rcases (by omega : 0 < many ∨ many = 0) with hm | rfl
            · have hmi : (0 : Int) < many := by omega
              have hDe : ({ d with inn := cur, reads := d.reads + 1 } : Cn) = D' := by
                rw [← HD'.out, HM.out, if_pos hm]
              have HDE := hid hDe
              clear hDe hm
              go_wp2_with fail
              go_ret2
              rw [HM.out]
              refine ⟨rfl, rsend_done (H.out.keeps HK1.out (by simp)) HK1.out HP.out HD.out HC1.out HS.out ((Keeps.refl [p] wr).setCell (p := ⟨p, 11, none⟩) (.inl (by simp)) _) ?_ ?_ ?_ ?_⟩
              all_goals rw [← HDE.out]
              simpa [rc] using HS.out.1.set_ 11 (.int .i64 (d.reads + 1))
            · have hDe : ({ d with inn := cur } : Cn) = D' := by
                rw [← HD'.out, HM.out, if_neg (by omega)]
              have HDE := hid hDe
              clear hDe
              go_wp2_with fail
              go_ret2
              rw [HM.out]
              refine ⟨rfl, rsend_done (H.out.keeps HK1.out (by simp)) HK1.out HP.out HD.out HC1.out HS.out (Keeps.refl [p] wr) ?_ ?_ ?_ ?_⟩
              all_goals rw [← HDE.out]
              exact HS.out.1
    · rw [if_neg h0]
      simp only
      rw [upd_self HD.out]
      simp [ptrIf, h0] at hv
      subst hv
      have HT0 := hid ht
      have hne : (t == 0) = false := by simp [h0]
      have hne2 : (t != 0) = true := by simp [h0]
      clear h0 ht
      go_enter Try.func81, Try.ntmps81
      go_wp2_with (go_at_call 101; refine (HT.out _ (Keeps.refl _ _)).mono ?_; rintro e w1 ⟨rfl, hk⟩)
      go_ret2
      exact ⟨rfl, NDone.same hR.out hk⟩
end Go.Proofs.Ytkeffebcmajhmaa
/- The reference's net: Write by contract. -/
namespace Go.Proofs.Ytkeffebcmajhmaa
open Go.RowKit
set_option linter.unusedVariables false
set_option linter.unusedSimpArgs false
theorem rwrite_done {w w5 : World} {n i p m : Nat} {F : List Nat} {own : Nat → Nat} {ps : List Nat} {vc vq vi vo vt v5 : Value} {N : NS} {d : Cn} {b : List Int} {u : Int} (h : NAt rc w n F own ps vc vq N) (hp : ps[i]? = some p) (hc : CAt rc w own i p d vi vo vt)
    (hm : b.length = m) (hv5 : Row w5 5 1 v5 (d.got.length + m) (bytesV d.got ++ bytesV b)) (hk5 : Keeps vo.ownBlock.toList w w5) (ho5 : ∀ k, v5.ownBlock = some k → vo.ownBlock = some k ∨ w.heap.size ≤ k) :
    NDone rc w n F (N.upd i { d with got := d.got ++ b, window := u }) ((w5.setCell ⟨p, 8, none⟩ v5).setCell ⟨p, 10, none⟩ (.int .i64 u)) := by
  obtain ⟨h1, h2, h3, h4, h5⟩ := hc
  have hpF : p ∈ F := h.ftag p (by omega)
  have hpt : p ∉ vo.ownBlock.toList := pnot (i := i) (vi := vi) (vo := vo) (vt := vt) h4.2 (by omega)
  have b5 := h1.keeps hk5 hpt
  have K : Keeps (p :: vo.ownBlock.toList) w ((w5.setCell ⟨p, 8, none⟩ v5).setCell ⟨p, 10, none⟩ (.int .i64 u)) :=
    ((hk5.mono (G := p :: vo.ownBlock.toList) (fun g hg => List.mem_cons_of_mem _ hg)).setCell (p := ⟨p, 8, none⟩) (.inl (by simp)) _).setCell (p := ⟨p, 10, none⟩) (.inl (by simp)) _
  have hnot : ∀ k, own k ≠ 4 * i + 4 → own k ≠ 4 * i + 6 → k ∉ p :: vo.ownBlock.toList := fun k a b hx => by
    simp only [List.mem_cons, Option.mem_toList] at hx
    rcases hx with rfl | e
    · exact a h2
    · exact b (h4.2 k e)
  refine ⟨h.put (G := p :: vo.ownBlock.toList) (d' := { d with got := d.got ++ b, window := u }) (vi := vi) (vo := v5) (vt := vt) (vq' := vq) hp rfl K ?_ h2 h1.lt ?_ ?_ ?_ ?_ ?_ ?_ ?_ ?_ ?_ ?_ ?_, ?_⟩
  · intro k hk' _
    simp only [List.mem_cons, Option.mem_toList] at hk'
    rcases hk' with rfl | e
    · omega
    · have := h4.2 k e
      omega
  · exact h.blk.keeps K (hnot n (by rw [h.tn]; omega) (by rw [h.tn]; omega))
  · exact h.rq.keeps K (fun k e => hnot k (by rw [h.oq k e]; omega) (by rw [h.oq k e]; omega))
  · simpa [rc] using (b5.set_ 8 v5).set_ 10 (.int .i64 u)
  · exact h3.1.keeps K (fun k e => hnot k (by rw [h3.2 k e]; omega) (by rw [h3.2 k e]; omega))
  · have h6 := hv5.far (p := ⟨p, 8, none⟩) (fun k e => hv5.blk_ne b5 (by decide) k e) v5
    have h7 := h6.far (p := ⟨p, 10, none⟩) (fun k e => h6.blk_ne (b5.set_ 8 v5) (by decide) k e) (.int .i64 u)
    simp only [List.length_append, hm]
    rw [bytesV_append]
    exact h7
  · exact h5.1.keeps K (fun k e => hnot k (by rw [h5.2 k e]; omega) (by rw [h5.2 k e]; omega))
  · exact fun k e => .inl ⟨h3.1.lt k e, h3.2 k e⟩
  · intro k e
    rcases ho5 k e with e1 | e1
    · exact .inl ⟨h4.1.lt k e1, h4.2 k e1⟩
    · exact .inr e1
  · exact fun k e => .inl ⟨h5.1.lt k e, h5.2 k e⟩
  · exact fun k e => .inl ⟨h.rq.lt k e, h.oq k e⟩
  · intro k hge
    have a := fun e => h3.1.lt k e
    have b := fun e => h5.1.lt k e
    have c := fun e => h.rq.lt k e
    refine ⟨fun e => ?_, fun e => ⟨fun e1 => ?_, fun e1 => ?_⟩, fun e e1 => ?_⟩
    · have := a e
      omega
    · have := b e1
      omega
    · have := c e1
      omega
    · have := c e1
      omega
  · refine K.mono (fun g hg => ?_)
    simp only [List.mem_cons, Option.mem_toList] at hg
    rcases hg with rfl | e
    · exact hpF
    · exact h.ftag g (by rw [h4.2 g e]; omega)
set_option maxRecDepth 100000 in
set_option maxHeartbeats 2000000 in
theorem rwrite_any (n : Nat) (F : List Nat) (N : NS) (B k : Int) (pv : Value) (b : List Int) (w : World) (h : NRep rc w n F N) (hN : OkN N B) (hB : B ≤ 1099511627776) (hr : CellsIn w F pv (bytesV b)) :
    Calls Try.prog 89 #[.pointer (some ⟨n, 0, none⟩), .int .i64 k, pv] w fun e w' => e = .returned (.tuple #[.int .i64 (writeN N k b).2.1, .int .i64 (writeN N k b).2.2]) ∧ NDone rc w n F (writeN N k b).1 w' := by
  have hR := hid h
  obtain ⟨own, ps, vc, vq, h⟩ := h
  have H := hid h
  obtain ⟨i1, hi1, hy0, hy1, hy2⟩ := info_parts u8_info
  unfold writeN
  rcases h.which k with hk | ⟨i, p, d, rfl, hp, hd⟩
  · rw [onConn_none hk]
    have HK := hid hk
    clear h hk hN hr
    simp only
    go_enter Try.func89, Try.ntmps89
    go_wp2_with (go_at_call 103; refine (rours_out H.out _ HK.out).mono ?_; rintro e w1 ⟨rfl, hk⟩)
    go_ret2
    exact ⟨rfl, NDone.same hR.out hk⟩
  · rw [onConn_some hd]
    obtain ⟨vi, vo, vt, hc⟩ := h.at_ i p d hp hd
    have hok := hN.cn d (List.mem_of_getElem? hd)
    have hu0 := hok.w0
    have hu1 := hok.w1
    have hgot := hok.got
    have HD := hid hd
    have HP := hid hp
    have HC := hid hc
    have c5 := hc.1.cell 6
    have c8 := hc.1.cell 10
    have c11 := hc.1.cell 8
    simp [rc] at c5 c8 c11
    obtain ⟨t, ht⟩ : ∃ t, oursD d = t := ⟨_, rfl⟩
    obtain ⟨v, hv⟩ : ∃ v, ptrIf t p = v := ⟨_, rfl⟩
    have HT := hid (rours_W h hp hd ht hv)
    have HRW := hid hr
    obtain ⟨PA, pcap, rfl, hpc1, hpc2⟩ := hr.shape
    simp only [bytesV_length] at hpc1 HRW ⊢
    clear h hN hok hp hd hc hr
    unfold writeD
    rw [ht]
    by_cases h0 : t = 0
    · subst h0
      simp [ptrIf] at hv
      subst hv
      rw [if_pos rfl]
      clear ht
      obtain ⟨sh, hsh⟩ : ∃ b, d.shut = b := ⟨_, rfl⟩
      obtain ⟨u, hu⟩ : ∃ u, d.window = u := ⟨_, rfl⟩
      obtain ⟨l, hl⟩ : ∃ l, b.length = l := ⟨_, rfl⟩
      rw [hsh] at c5
      rw [hu] at c8 hu0 hu1
      rw [hl] at hpc1 HRW ⊢
      have HSH := hid hsh
      have HU := hid hu
      have HL := hid hl
      cases sh with
      | true =>
        rw [if_pos hsh]
        simp only
        rw [upd_self HD.out]
        clear hsh hu hl
        go_enter Try.func89, Try.ntmps89
        go_wp2_with (go_at_call 103; refine (HT.out _ (Keeps.refl _ _)).mono ?_; rintro e w1 ⟨rfl, hk⟩; have e5 := cell_keep hk (by simp) c5)
        go_ret2
        exact ⟨rfl, NDone.same hR.out hk⟩
      | false =>
        rw [if_neg (by rw [hsh]; simp)]
        by_cases hl0 : l = 0
        · subst hl0
          rw [if_pos (List.eq_nil_of_length_eq_zero hl)]
          simp only
          rw [upd_self HD.out]
          clear hsh hu hl
          go_enter Try.func89, Try.ntmps89
          go_wp2_with (go_at_call 103; refine (HT.out _ (Keeps.refl _ _)).mono ?_; rintro e w1 ⟨rfl, hk⟩; have e5 := cell_keep hk (by simp) c5)
          go_ret2
          exact ⟨rfl, NDone.same hR.out hk⟩
        · have hbn : b ≠ [] := fun e => hl0 (by rw [← hl, e]; rfl)
          rw [if_neg hbn]
          have hlb : ((l : Int) == 0) = false := by simp; omega
          by_cases hu00 : u = 0
          · rw [if_pos (by rw [hu]; exact hu00)]
            subst hu00
            simp only
            rw [upd_self HD.out]
            clear hsh hu hl hl0 hbn
            go_enter Try.func89, Try.ntmps89
            go_wp2_with (go_at_call 103; refine (HT.out _ (Keeps.refl _ _)).mono ?_; rintro e w1 ⟨rfl, hk⟩; have e5 := cell_keep hk (by simp) c5; have e8 := cell_keep hk (by simp) c8)
            go_ret2
            exact ⟨rfl, NDone.same hR.out hk⟩
          · rw [if_neg (by rw [hu]; exact hu00)]
            have hub : (u == 0) = false := by simp [hu00]
            obtain ⟨m, hm⟩ : ∃ m, min l d.window.toNat = m := ⟨_, rfl⟩
            rw [hm]
            have hml : m ≤ l := by omega
            have hmu : (m : Int) ≤ u := by omega
            have hm1 : m ≤ 1099511627776 := by omega
            have hcase : ((m : Int) = l ∧ ¬ (u < (l : Int))) ∨ ((m : Int) = u ∧ u < (l : Int)) := by omega
            obtain ⟨tl, htl⟩ : ∃ tl, b.take m = tl := ⟨_, rfl⟩
            have htll : tl.length = m := by rw [← htl, List.length_take]; omega
            obtain ⟨D', hD'⟩ : ∃ D' : Cn, ({ d with got := d.got ++ b.take m, window := d.window - (m : Nat) } : Cn) = D' := ⟨_, rfl⟩
            rw [hD']
            rw [htl] at hD'
            have HTL := hid htl
            have HTLL := hid htll
            have HD' := hid hD'
            have hmin : ∀ (ts : Array TypeId) (t : TypeId) (wx : World), (Builtin.min_ ts t #[.int .i64 (l : Int), .int .i64 u]).run Try.prog wx = .ok (.int .i64 (m : Int)) wx := by
              intro ts t wx
              rw [run_min_int2]
              rcases hcase with ⟨h1, h2⟩ | ⟨h1, h2⟩
              · rw [if_neg h2, h1]
              · rw [if_pos h2, h1]
            have hsl := fun wx => run_cut_hi (P := Try.prog) wx 66 5 i1 1 Try.underlying66 hi1 hy1 PA l pcap m (m : Int) rfl .i64 (by omega)
            have hw1 : IntKind.i64.wrap (u - (m : Int)) = u - (m : Int) := IntWalk.i64_in _ (by omega)
            obtain ⟨GA, gcap, hvo, hgc1, -⟩ := HC.out.2.2.2.1.1.form
            obtain ⟨gn, hgn⟩ : ∃ gn, d.got.length = gn := ⟨_, rfl⟩
            rw [hgn] at hvo hgc1 hgot
            rw [hvo] at c11
            have HGN := hid hgn
            have HVO := hid hvo
            have HRD0 : Hid (Reads w 1 (cutA PA 0 pcap 1) m (bytesV tl)) := by
              have h1 := (HRW.out.cut (lo := 0) (hi := m) (Nat.zero_le _) hml).reads.2
              simp only [Nat.sub_zero, List.drop_zero] at h1
              rw [← htl, bytesV_take]
              exact hid h1
            have hAF : ∀ ad, cutA PA 0 pcap 1 = some ad → 0 < m → ad.block ∉ F := by
              intro ad had hm0
              obtain ⟨A', c', hv', h1', h2', h3'⟩ := (HRW.out.cut (lo := 0) (hi := m) (Nat.zero_le _) hml)
              injection hv' with hA'
              obtain ⟨bb, oo, hA2, hbF, -⟩ := h3' (by simp; simp only [List.length_take, List.length_drop, bytesV_length] at *; omega)
              rw [hA', hA2] at had
              injection had with had
              rw [← had]
              exact hbF
            clear hsh hu hl hl0 hbn hu00 hm htl hcase hD' htll hgn hvo
            go_enter Try.func89, Try.ntmps89
            go_wp2_with (go_at_call 103; refine (HT.out _ (Keeps.refl _ _)).mono ?_; rintro e w1 ⟨rfl, hk⟩; have e5 := cell_keep hk (by simp) c5; have e8 := cell_keep hk (by simp) c8; have e11 := cell_keep hk (by simp) c11; have HK1 := hid hk; have f8 := (HC.out.1.keeps hk (by simp)).frozen 8; clear hk)
            have hgr : Row w1 5 1 (.slice GA gn gcap) gn (bytesV d.got) := by have h1 := HC.out.2.2.2.1.1.keeps HK1.out (by simp); rw [HGN.out, HVO.out] at h1; exact h1
            have hpt : p ∉ (Value.slice GA gn gcap).ownBlock.toList := by rw [← HVO.out]; exact pnot (i := i) (vi := vi) (vo := vo) (vt := vt) HC.out.2.2.2.1.2 (by rw [HC.out.2.1]; omega)
            have HGR := hid hgr
            have HPT := hid hpt
            have HRD1 := hid (HRD0.out.keeps HK1.out (by simp))
            clear hgr hpt
            go_region_law (first
              | (refine step_append_row _ (by rfl) _ _ _ (by rfl) 5 i1 _ 1 1 Try.underlying66 hi1 hy0 hy1 hy2 rfl (by omega) (.slice GA gn gcap) gn (bytesV d.got) (by rfl) (by exact HGR.out) (cutA PA 0 pcap 1) m pcap (bytesV tl) (by rfl) (by exact HRD1.out) (bytesV_one _) (by simp only [maxLen]; omega) (by omega) ?_; intro v5 w5 hv5 hk5a ho5a; have hk5 : Keeps (Value.slice GA gn gcap).ownBlock.toList w1 w5 := (⟨hk5a.os, hk5a.tape, hk5a.output, hk5a.size, hk5a.block⟩); have ho5 : ∀ j, v5.ownBlock = some j → (Value.slice GA gn gcap).ownBlock = some j ∨ w1.heap.size ≤ j := (by exact ho5a); obtain ⟨A5, q5, rfl, -⟩ := hv5.form; have b5 := (HC.out.1.keeps HK1.out (by simp)).keeps hk5 HPT.out; have j11 := b5.cell 8; have k11 := b5.frozen 8; have j8 := b5.cell 10; have k8 := b5.frozen 10; simp [rc] at j11 j8; rw [HU.out] at j8; have HV5 := hid hv5; have HK5 := hid hk5; have HO5 := hid ho5; clear b5 hv5 hk5 ho5 hk5a ho5a))
            all_goals
              go_wp2_with fail
              go_ret2
              refine ⟨rfl, NDone.after (H.out.keeps HK1.out (by simp)) HK1.out ?_⟩
              have hdone := rwrite_done (w := w1) (m := m) (b := tl) (u := u - (m : Int)) (v5 := .slice A5 (gn + m) q5) (H.out.keeps HK1.out (by simp)) HP.out (HC.out.keeps HK1.out (by simp)) HTLL.out (by rw [HGN.out]; exact HV5.out) (by rw [HVO.out]; exact HK5.out) (by rw [HVO.out]; exact HO5.out)
              rw [← HD'.out, HU.out]
              exact (by (repeat (first | exact hdone | exact hdone.post_drewN 1)))
    · rw [if_neg h0]
      simp only
      rw [upd_self HD.out]
      simp [ptrIf, h0] at hv
      subst hv
      have HT0 := hid ht
      have hne : (t == 0) = false := by simp [h0]
      have hne2 : (t != 0) = true := by simp [h0]
      clear h0 ht
      go_enter Try.func89, Try.ntmps89
      go_wp2_with (go_at_call 103; refine (HT.out _ (Keeps.refl _ _)).mono ?_; rintro e w1 ⟨rfl, hk⟩)
      go_ret2
      exact ⟨rfl, NDone.same hR.out hk⟩
end Go.Proofs.Ytkeffebcmajhmaa
