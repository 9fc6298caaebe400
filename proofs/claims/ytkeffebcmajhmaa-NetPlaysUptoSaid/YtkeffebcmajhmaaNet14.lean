/- The program's net: the walks of Read and Write. -/
import Derived.Test.YtkeffebcmajhmaaNet13
namespace Go.Proofs.Ytkeffebcmajhmaa
open Go.RowKit
set_option linter.unusedVariables false
set_option linter.unusedSimpArgs false
theorem ndrew_cell {w : World} {p : Addr} {v : Value} (h : w.cell? p = some v) : w.drew.cell? p = some v := h
theorem ndrewN_cell {w : World} {p : Addr} {v : Value} (h : w.cell? p = some v) (n : Nat) : (w.drewN n).cell? p = some v := h
/-- what a Read leaves: what it hands out is nobody else's. -/
def ReadPost (c : Cfg) (w : World) (n : Nat) (F : List Nat) (r : NS × List Int × Int) (e : Ending) (w' : World) : Prop :=
  ∃ v F', e = .returned (.tuple #[v, .int .i64 r.2.2]) ∧ NRep c w' n F' r.1 ∧ LaterF F w F' ∧ Keeps F w w' ∧ Row w' 5 1 v r.2.1.length (bytesV r.2.1) ∧ ∀ k, v.ownBlock = some k → w.heap.size ≤ k ∧ k ∉ F'
theorem ReadPost.none_ {c : Cfg} {w w' : World} {n : Nat} {F : List Nat} {N : NS} {x : Int} (h : NRep c w n F N) (hk : Keeps [] w w') : ReadPost c w n F (N, [], x) (.returned (.tuple #[.slice none 0 0, .int .i64 x])) w' :=
  ⟨_, F, rfl, h.keeps hk (by simp), fun k hk => .inl hk, hk.mono (by simp), Row.nil _ _ _, by simp [Value.ownBlock]⟩
set_option maxRecDepth 100000 in
set_option maxHeartbeats 2000000 in
theorem read_any (n : Nat) (F : List Nat) (N : NS) (B k most : Int) (w : World) (h : NRep pc w n F N) (hN : OkN N B) (hB : B ≤ 1099511627776) (hmost : most ≤ 9223372036854775807) :
    Calls Try.prog 42 #[.pointer (some ⟨n, 0, none⟩), .int .i64 k, .int .i64 most] w (ReadPost pc w n F (readN N k most)) := by
  have hR := hid h
  obtain ⟨own, ps, vc, vq, h⟩ := h
  have H := hid h
  obtain ⟨i1, hi1, hy0, hy1, hy2⟩ := info_parts u8_info
  unfold readN
  by_cases hb0 : most < 1
  · rw [if_pos hb0]
    clear h hN
    go_enter Try.func42, Try.ntmps42
    go_wp2
    go_ret2
    exact ReadPost.none_ hR.out (Keeps.refl _ _)
  rw [if_neg hb0]
  have hb1 : 1 ≤ most := by omega
  have hb2 : decide (most < 1) = false := by simp; omega
  clear hb0
  rcases h.which k with hk | ⟨i, p, d, rfl, hp, hd⟩
  · rw [onConn_none hk]
    have HK := hid hk
    clear h hk hN
    go_enter Try.func42, Try.ntmps42
    go_wp2_with (go_at_call 74; refine (ours_out H.out _ HK.out).mono ?_; rintro e w1 ⟨rfl, hk⟩)
    go_ret2
    exact ReadPost.none_ hR.out hk
  · rw [onConn_some hd]
    obtain ⟨vi, vo, vt, hc⟩ := h.at_ i p d hp hd
    have hok := hN.cn d (List.mem_of_getElem? hd)
    have hin := hok.inn
    have htold := hok.told
    have HD := hid hd
    have HP := hid hp
    have HC := hid hc
    have c4 := hc.1.cell 4
    have c7 := hc.1.cell 7
    have c12 := hc.1.cell 12
    simp [pc] at c4 c7 c12
    obtain ⟨t, ht⟩ : ∃ t, oursD d = t := ⟨_, rfl⟩
    obtain ⟨v, hv⟩ : ∃ v, ptrIf t p = v := ⟨_, rfl⟩
    have HT := hid (ours_W h hp hd ht hv)
    obtain ⟨mm, hmm⟩ : ∃ mm, most.toNat = mm := ⟨_, rfl⟩
    have hmm1 : (mm : Int) = most := by omega
    rw [hmm]
    have HMM := hid hmm1
    clear h hN hok hp hd hc hmm hmm1
    unfold readD
    rw [ht]
    by_cases h0 : t = 0
    · subst h0
      simp [ptrIf] at hv
      subst hv
      rw [if_pos rfl]
      clear ht
      obtain ⟨hv, hhv⟩ : ∃ b, d.halved = b := ⟨_, rfl⟩
      rw [hhv] at c4
      obtain ⟨IA, icap, hvi, hic1, hicm, -⟩ := HC.out.2.2.1.1.form
      rw [hvi] at c7
      obtain ⟨l, hl⟩ : ∃ l, d.inn.length = l := ⟨_, rfl⟩
      rw [hl] at c7 hic1 hin
      have HL := hid hl
      have HVI := hid hvi
      have HHV := hid hhv
      by_cases hag : l = 0 ∧ hv = false
      · obtain ⟨rfl, rfl⟩ := hag
        rw [if_pos ⟨List.eq_nil_of_length_eq_zero hl, hhv⟩]
        simp only
        rw [upd_self HD.out]
        clear hhv hvi hl
        go_enter Try.func42, Try.ntmps42
        go_wp2_with (go_at_call 74; refine (HT.out _ (Keeps.refl _ _)).mono ?_; rintro e w1 ⟨rfl, hk⟩; have e4 := cell_keep hk (by simp) c4; have e7 := cell_keep hk (by simp) c7)
        go_ret2
        exact ReadPost.none_ hR.out hk
      · rw [if_neg (fun hx => hag ⟨by rw [← hl, hx.1]; rfl, by rw [← hhv]; exact hx.2⟩)]
        simp only
        obtain ⟨m, hm⟩ : ∃ m, min mm l = m := ⟨_, rfl⟩
        have hml : m ≤ l := by omega
        have HTK : Hid (d.inn.take mm = d.inn.take m ∧ d.inn.drop mm = d.inn.drop m) := by
          refine hid ⟨?_, ?_⟩
          · rcases Nat.le_total mm l with h1 | h1
            · rw [← hm, Nat.min_eq_left h1]
            · rw [← hm, Nat.min_eq_right h1, List.take_of_length_le (by omega), List.take_of_length_le (by omega)]
          · rcases Nat.le_total mm l with h1 | h1
            · rw [← hm, Nat.min_eq_left h1]
            · rw [← hm, Nat.min_eq_right h1, List.drop_eq_nil_of_le (by omega), List.drop_eq_nil_of_le (by omega)]
        rw [HTK.out.1, HTK.out.2]
        have hcase : ((m : Int) = most ∧ ¬ ((l : Int) < most)) ∨ ((m : Int) = l ∧ (l : Int) < most) := by
          have := HMM.out
          omega
        obtain ⟨tl, htl⟩ : ∃ tl, d.inn.take m = tl := ⟨_, rfl⟩
        obtain ⟨D', hD'⟩ : ∃ D' : Cn, ({ d with inn := d.inn.drop m, told := d.told ++ d.inn.take m } : Cn) = D' := ⟨_, rfl⟩
        rw [htl] at hD' ⊢
        rw [hD']
        have HTL := hid htl
        have HD' := hid hD'
        have htll : tl.length = m := by rw [← htl, List.length_take]; omega
        have HTLL := hid htll
        have hrowp : Row w 5 1 (.slice (cutA IA 0 icap 1) m icap) tl.length (bytesV tl) := by
          have h1 := HC.out.2.2.1.1
          rw [hvi, hl] at h1
          have h2 := (h1.cut (lo := 0) (Nat.zero_le _)).take (m := m) (by omega)
          simp only [Nat.sub_zero, Nat.zero_mul, List.drop_zero, Nat.mul_one] at h2
          rw [← htl, bytesV_take, List.length_take, hl, Nat.min_eq_left hml]
          exact h2
        have HRP := hid hrowp
        have hg1 : (l == 0) = true → hv = true := by
          intro hx
          have : l = 0 := by simpa using hx
          cases hv with
          | true => rfl
          | false => exact absurd ⟨this, rfl⟩ hag
        have hgd : (decide ((l : Int) = 0) && !hv) = false := by
          cases hv with
          | true => simp
          | false =>
            simp
            intro hx
            exact hag ⟨by omega, rfl⟩
        have hslot : (((l : Int) == 0) = false) ∨ (((l : Int) == 0) = true ∧ hv = true) := by
          by_cases hx : l = 0
          · subst hx
            exact .inr ⟨rfl, hg1 rfl⟩
          · exact .inl (by simp; omega)
        have hic : icap ≤ 9223372036854775807 := by unfold maxLen at hicm; omega
        obtain ⟨TA, tcap, hvt, htc1, -⟩ := HC.out.2.2.2.2.1.form
        obtain ⟨tn, htn⟩ : ∃ tn, d.told.length = tn := ⟨_, rfl⟩
        rw [htn] at hvt htc1
        rw [hvt] at c12
        have htn2 : (tn : Int) ≤ B := by rw [← htn]; exact htold
        have HTN := hid htn
        have HVT := hid hvt
        clear hhv hvi hl hag hm htl hD' htll hrowp hg1 hgd hvt htn htold
        have hmln : m ≤ icap := by omega
        have hml2 : m ≤ 1099511627776 := by omega
        have hlc : m ≤ l := hml
        have hmin : ∀ (ts : Array TypeId) (t : TypeId) (wx : World), (Builtin.min_ ts t #[.int .i64 most, .int .i64 (l : Int)]).run Try.prog wx = .ok (.int .i64 (m : Int)) wx := by
          intro ts t wx
          rw [run_min_int2]
          rcases hcase with ⟨h1, h2⟩ | ⟨h1, h2⟩
          · rw [if_neg h2, h1]
          · rw [if_pos h2, h1]
        have hsl := fun wx => run_cut_hi (P := Try.prog) wx 66 5 i1 1 Try.underlying66 hi1 hy1 IA l icap m (m : Int) rfl .i64 (by omega)
        clear hcase
        rcases hslot with hs | ⟨hs, rfl⟩
        all_goals
          have hsl2 := fun wx => run_cut_lo (P := Try.prog) wx 66 5 i1 1 Try.underlying66 hi1 hy1 IA l icap m (m : Int) rfl .i64 hml
          go_enter Try.func42, Try.ntmps42
          go_wp2_with (go_at_call 74; refine (HT.out _ (Keeps.refl _ _)).mono ?_; rintro e w1 ⟨rfl, hk⟩; have e4 := cell_keep hk (by simp) c4; have e7 := cell_keep hk (by simp) c7; have e12 := cell_keep hk (by simp) c12; have HK1 := hid hk; have hz1 := hk.size; clear hk)
          have HRP1 := hid (HRP.out.keeps HK1.out (by simp))
          have hz2 : tl.length ≤ 1099511627776 := by have := HTLL.out; omega
          have HZ2 := hid hz2
          clear hz2
          go_region_held3 (fun w' => w'.cell? ⟨p, 7, none⟩ = some (.slice IA l icap)) (first | (repeat (first | (with_reducible assumption) | (with_reducible refine alloc_cell ?_ _) | (with_reducible refine ndrew_cell ?_))))
            (first | (go_at_call 75; refine (clone_any _ tl _ HRP1.out.drew HZ2.out).mono ?_; rintro e w2 ⟨v2, rfl, hv2, ho2, hk2⟩; have e7b := cell_keep hk2 (by simp) e7; have HV2 := hid hv2; have HO2 := hid ho2; have HK2 := hid hk2; clear hv2 ho2 hk2) | fail)
          have hk12 : Keeps [] w w2 := (HK1.out.trans (w' := w1) (HK2.out.pre1) (by simp))
          have e12b := cell_keep HK2.out (by simp) e12
          have HK12 := hid hk12
          have HC2 := hid (HC.out.keeps hk12 (by simp))
          have g7 := HC2.out.1.frozen 7
          have g12 := HC2.out.1.frozen 12
          have hvr := HV2.out
          obtain ⟨VA, vcap, rfl, hvc1, -⟩ := hvr.form
          rw [HTLL.out] at hvr hvc1 ⊢
          have HVR := hid hvr
          have HTROW : Hid (Row (w2.setCell ⟨p, 7, none⟩ (.slice (cutA IA m icap 1) (l - m) (icap - m))) 5 1 (.slice TA tn tcap) tn (bytesV d.told)) := by
            have h1 := HC2.out.2.2.2.2.1
            rw [HTN.out, HVT.out] at h1
            exact hid (h1.far (p := ⟨p, 7, none⟩) (fun k e => h1.blk_ne HC2.out.1 (by decide) k e) _)
          have hrd : Reads (w2.setCell ⟨p, 7, none⟩ (.slice (cutA IA m icap 1) (l - m) (icap - m))) 1 VA m (bytesV tl) := (hvr.far (p := ⟨p, 7, none⟩) (fun k e => hvr.blk_ne HC2.out.1 (by decide) k e) _).reads
          have HRD := hid hrd
          have hpt : p ∉ (Value.slice TA tn tcap).ownBlock.toList := fun hx => HTROW.out.blk_ne (HC2.out.1.set_ 7 _) (by decide) p (by simpa using hx) rfl
          have HPT := hid hpt
          clear hk12 hvr hrd hpt
          go_wp2_with (at_builtin; refine wpList_append_row _ rfl (.tmp 64) (.tmp 65) _ rfl 5 i1 _ 1 1 Try.underlying66 hi1 hy0 hy1 hy2 rfl (by omega) (.slice TA tn tcap) tn _ rfl HTROW.out VA m vcap (bytesV tl) rfl HRD.out (bytesV_one _) (by simp only [maxLen]; omega) (by omega) ?_; intro v5 w5 hv5 hk5 ho5; obtain ⟨A5, q5, rfl, -⟩ := hv5.form; have b5 := (HC2.out.1.set_ 7 (.slice (cutA IA m icap 1) (l - m) (icap - m))).keeps hk5 HPT.out; have j12 := b5.cell 12; have k12 := b5.frozen 12; simp [pc] at j12; have HV5 := hid hv5; have HK5 := hid hk5; have HO5 := hid ho5; clear b5 hv5 hk5 ho5)
          go_ret2
          have hdone := read_done (w := w2) (m := m) (l := l) (icap := icap) (IA := IA) (v5 := .slice A5 (tn + m) q5) (H.out.keeps HK12.out (by simp)) HP.out HC2.out (by rw [HVI.out, HL.out]) HL.out hml (by rw [HTN.out, HTL.out]; exact HV5.out) (by rw [HVT.out]; exact HK5.out)
            (fun k e => by
              rcases HO5.out k e with h1 | h1
              · exact .inl (by rw [HVT.out]; exact h1)
              · exact .inr (by simpa [World.setCell] using h1))
          rw [HTL.out, HD'.out] at hdone
          obtain ⟨⟨F', hr', hl'⟩, hkk⟩ := hdone
          have hFl : ∀ k ∈ F, k < w.heap.size := H.out.flt
          have hz12 := HK12.out.size
          have hog : ∀ k, (Value.slice VA m vcap).ownBlock = some k → w.heap.size ≤ k ∧ k < w2.heap.size := fun k e => by
            have h1 := HO2.out k (by
              cases VA with
              | none => simp [Value.ownBlock] at e
              | some a => simpa [Value.ownBlock] using e)
            simp at h1
            exact ⟨by omega, HVR.out.lt k e⟩
          refine ⟨_, F', rfl, hr', fun k hk => ?_, (HK12.out.mono (G := F) (by simp)).trans hkk (fun g hg => .inl hg), ?_, fun k e => ⟨(hog k e).1, fun hx => ?_⟩⟩
          · rcases hl' k hk with e | e
            · exact .inl e
            · exact .inr (by omega)
          · simp only
            rw [HTLL.out]
            exact HVR.out.keeps hkk (fun k e hx => by
              have := hFl k hx
              have := hog k e
              omega)
          · have h1 := hog k e
            rcases hl' k hx with e1 | e1
            · have := hFl k e1
              omega
            · omega
    · rw [if_neg h0]
      simp only
      rw [upd_self HD.out]
      simp [ptrIf, h0] at hv
      subst hv
      have HT0 := hid ht
      have hne : (t == 0) = false := by simp [h0]
      have hne2 : (t != 0) = true := by simp [h0]
      clear h0 ht
      go_enter Try.func42, Try.ntmps42
      go_wp2_with (go_at_call 74; refine (HT.out _ (Keeps.refl _ _)).mono ?_; rintro e w1 ⟨rfl, hk⟩)
      go_ret2
      exact ReadPost.none_ hR.out hk
end Go.Proofs.Ytkeffebcmajhmaa
