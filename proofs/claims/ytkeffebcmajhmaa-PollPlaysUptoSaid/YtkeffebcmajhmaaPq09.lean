/- The program's net: the walks of Read and Write. -/
import Derived.Test.YtkeffebcmajhmaaPq08
namespace Go.Proofs.Ytkeffebcmajhmaa
open Go.RowKit
set_option linter.unusedVariables false
set_option linter.unusedSimpArgs false
theorem ndrew_cell {w : World} {p : Addr} {v : Value} (h : w.cell? p = some v) : w.drew.cell? p = some v := h
theorem ndrewN_cell {w : World} {p : Addr} {v : Value} (h : w.cell? p = some v) (n : Nat) : (w.drewN n).cell? p = some v := h
/-- what a Read leaves: what it hands out is nobody else's. -/
def ReadPost (c : Cfg) (w : World) (n : Nat) (F : List Nat) (r : NS × List Int × Int) (e : Ending) (w' : World) : Prop :=
  ∃ v F', e = .returned (.tuple #[v, .int .i64 r.2.2]) ∧ NRep c w' n F' r.1 ∧ LaterF F w F' ∧ Keeps F w w' ∧ Row w' 5 1 v r.2.1.length (bytesV r.2.1) ∧ ∀ k, v.ownBlock = some k → w.heap.size ≤ k ∧ k ∉ F'
theorem ReadPost.none_ {c : Cfg} {w w' : World} {n : Nat} {F : List Nat} {N : NS} {x : Int} (h : NRep c w n F N) (hk : Keeps [] w w') : ReadPost c w n F (N, [], x) (.returned (.tuple #[.slice none 0 0, .int .i64 x])) w' :=
  ⟨_, F, rfl, h.keeps hk (by simp), fun k hk => .inl hk, hk.mono (by simp), Row.nil _ _ _, by simp [Value.ownBlock]⟩
set_option maxRecDepth 100000 in
set_option maxHeartbeats 2000000 in
theorem read_any (n : Nat) (F : List Nat) (N : NS) (B k most : Int) (w : World) (h : NRep pc w n F N) (hN : OkN N B) (hB : B ≤ 1099511627776) (hmost : most ≤ 9223372036854775807) :
    Calls Try.prog 42 #[.pointer (some ⟨n, 0, none⟩), .int .i64 k, .int .i64 most] w (ReadPost pc w n F (readN N k most)) := by
  have hR := hid h
  obtain ⟨own, ps, vc, vq, h⟩ := h
  have H := hid h
  obtain ⟨i1, hi1, hy0, hy1, hy2⟩ := info_parts u8_info
  unfold readN
  by_cases hb0 : most < 1
  · rw [if_pos hb0]
    clear h hN
    go_enter Try.func42, Try.ntmps42
    go_wp2
    go_ret2
    exact ReadPost.none_ hR.out (Keeps.refl _ _)
  rw [if_neg hb0]
  have hb1 : 1 ≤ most := by omega
  have hb2 : decide (most < 1) = false := by simp; omega
  clear hb0
  rcases h.which k with hk | ⟨i, p, d, rfl, hp, hd⟩
  · rw [onConn_none hk]
    have HK := hid hk
    clear h hk hN
    go_enter Try.func42, Try.ntmps42
    go_wp2_with (go_at_call 74; refine (ours_out H.out _ HK.out).mono ?_; rintro e w1 ⟨rfl, hk⟩)
    go_ret2
    exact ReadPost.none_ hR.out hk
  · rw [onConn_some hd]
    obtain ⟨vi, vo, vt, hc⟩ := h.at_ i p d hp hd
    have hok := hN.cn d (List.mem_of_getElem? hd)
    have hin := hok.inn
    have htold := hok.told
    have HD := hid hd
    have HP := hid hp
    have HC := hid hc
    have c4 := hc.1.cell 4
    have c7 := hc.1.cell 7
    have c12 := hc.1.cell 12
    simp [pc] at c4 c7 c12
    obtain ⟨t, ht⟩ : ∃ t, oursD d = t := ⟨_, rfl⟩
    obtain ⟨v, hv⟩ : ∃ v, ptrIf t p = v := ⟨_, rfl⟩
    have HT := hid (ours_W h hp hd ht hv)
    obtain ⟨mm, hmm⟩ : ∃ mm, most.toNat = mm := ⟨_, rfl⟩
    have hmm1 : (mm : Int) = most := by omega
    rw [hmm]
    have HMM := hid hmm1
    clear h hN hok hp hd hc hmm hmm1
    unfold readD
    rw [ht]
    by_cases h0 : t = 0
    · subst h0
      simp [ptrIf] at hv
      subst hv
      rw [if_pos rfl]
      clear ht
      obtain ⟨hv, hhv⟩ : ∃ b, d.halved = b := ⟨_, rfl⟩
      rw [hhv] at c4
      obtain ⟨IA, icap, hvi, hic1, hicm, -⟩ := HC.out.2.2.1.1.form
      rw [hvi] at c7
      obtain ⟨l, hl⟩ : ∃ l, d.inn.length = l := ⟨_, rfl⟩
      rw [hl] at c7 hic1 hin
      have HL := hid hl
      have HVI := hid hvi
      have HHV := hid hhv
      by_cases hag : l = 0 ∧ hv = false
      · obtain ⟨rfl, rfl⟩ := hag
        rw [if_pos ⟨List.eq_nil_of_length_eq_zero hl, hhv⟩]
        simp only
        rw [upd_self HD.out]
        clear hhv hvi hl
        go_enter Try.func42, Try.ntmps42
        go_wp2_with (go_at_call 74; refine (HT.out _ (Keeps.refl _ _)).mono ?_; rintro e w1 ⟨rfl, hk⟩; have e4 := cell_keep hk (by simp) c4; have e7 := cell_keep hk (by simp) c7)
        go_ret2
        exact ReadPost.none_ hR.out hk
      · rw [if_neg (fun hx => hag ⟨by rw [← hl, hx.1]; rfl, by rw [← hhv]; exact hx.2⟩)]
        simp only
        obtain ⟨m, hm⟩ : ∃ m, min mm l = m := ⟨_, rfl⟩
        have hml : m ≤ l := by omega
        have HTK : Hid (d.inn.take mm = d.inn.take m ∧ d.inn.drop mm = d.inn.drop m) := by
          refine hid ⟨?_, ?_⟩
          · rcases Nat.le_total mm l with h1 | h1
            · rw [← hm, Nat.min_eq_left h1]
            · rw [← hm, Nat.min_eq_right h1, List.take_of_length_le (by omega), List.take_of_length_le (by omega)]
          · rcases Nat.le_total mm l with h1 | h1
            · rw [← hm, Nat.min_eq_left h1]
            · rw [← hm, Nat.min_eq_right h1, List.drop_eq_nil_of_le (by omega), List.drop_eq_nil_of_le (by omega)]
        rw [HTK.out.1, HTK.out.2]
        have hcase : ((m : Int) = most ∧ ¬ ((l : Int) < most)) ∨ ((m : Int) = l ∧ (l : Int) < most) := by
          have := HMM.out
          omega
        obtain ⟨tl, htl⟩ : ∃ tl, d.inn.take m = tl := ⟨_, rfl⟩
        obtain ⟨D', hD'⟩ : ∃ D' : Cn, ({ d with inn := d.inn.drop m, told := d.told ++ d.inn.take m } : Cn) = D' := ⟨_, rfl⟩
        rw [htl] at hD' ⊢
        rw [hD']
        have HTL := hid htl
        have HD' := hid hD'
        have htll : tl.length = m := by rw [← htl, List.length_take]; omega
        have HTLL := hid htll
        have hrowp : Row w 5 1 (.slice (cutA IA 0 icap 1) m icap) tl.length (bytesV tl) := by
          have h1 := HC.out.2.2.1.1
          rw [hvi, hl] at h1
          have h2 := (h1.cut (lo := 0) (Nat.zero_le _)).take (m := m) (by omega)
          simp only [Nat.sub_zero, Nat.zero_mul, List.drop_zero, Nat.mul_one] at h2
          rw [← htl, bytesV_take, List.length_take, hl, Nat.min_eq_left hml]
          exact h2
        have HRP := hid hrowp
        have hg1 : (l == 0) = true → hv = true := by
          intro hx
          have : l = 0 := by simpa using hx
          cases hv with
          | true => rfl
          | false => exact absurd ⟨this, rfl⟩ hag
        have hgd : (decide ((l : Int) = 0) && !hv) = false := by
          cases hv with
          | true => simp
          | false =>
            simp
            intro hx
            exact hag ⟨by omega, rfl⟩
        have hslot : (((l : Int) == 0) = false) ∨ (((l : Int) == 0) = true ∧ hv = true) := by
          by_cases hx : l = 0
          · subst hx
            exact .inr ⟨rfl, hg1 rfl⟩
          · exact .inl (by simp; omega)
        have hic : icap ≤ 9223372036854775807 := by unfold maxLen at hicm; omega
        obtain ⟨TA, tcap, hvt, htc1, -⟩ := HC.out.2.2.2.2.1.form
        obtain ⟨tn, htn⟩ : ∃ tn, d.told.length = tn := ⟨_, rfl⟩
        rw [htn] at hvt htc1
        rw [hvt] at c12
        have htn2 : (tn : Int) ≤ B := by rw [← htn]; exact htold
        have HTN := hid htn
        have HVT := hid hvt
        clear hhv hvi hl hag hm htl hD' htll hrowp hg1 hgd hvt htn htold
        have hmln : m ≤ icap := by omega
        have hml2 : m ≤ 1099511627776 := by omega
        have hlc : m ≤ l := hml
        have hmin : ∀ (ts : Array TypeId) (t : TypeId) (wx : World), (Builtin.min_ ts t #[.int .i64 most, .int .i64 (l : Int)]).run Try.prog wx = .ok (.int .i64 (m : Int)) wx := by
          intro ts t wx
          rw [run_min_int2]
          rcases hcase with ⟨h1, h2⟩ | ⟨h1, h2⟩
          · rw [if_neg h2, h1]
          · rw [if_pos h2, h1]
        have hsl := fun wx => run_cut_hi (P := Try.prog) wx 66 5 i1 1 Try.underlying66 hi1 hy1 IA l icap m (m : Int) rfl .i64 (by omega)
        clear hcase
        rcases hslot with hs | ⟨hs, rfl⟩
        all_goals
          have hsl2 := fun wx => run_cut_lo (P := Try.prog) wx 66 5 i1 1 Try.underlying66 hi1 hy1 IA l icap m (m : Int) rfl .i64 hml
          go_enter Try.func42, Try.ntmps42
          go_wp2_with (go_at_call 74; refine (HT.out _ (Keeps.refl _ _)).mono ?_; rintro e w1 ⟨rfl, hk⟩; have e4 := cell_keep hk (by simp) c4; have e7 := cell_keep hk (by simp) c7; have e12 := cell_keep hk (by simp) c12; have HK1 := hid hk; have hz1 := hk.size; clear hk)
          have HRP1 := hid (HRP.out.keeps HK1.out (by simp))
          have hz2 : tl.length ≤ 1099511627776 := by have := HTLL.out; omega
          have HZ2 := hid hz2
          clear hz2
          go_region_held3 (fun w' => w'.cell? ⟨p, 7, none⟩ = some (.slice IA l icap)) (first | (repeat (first | (with_reducible assumption) | (with_reducible refine alloc_cell ?_ _) | (with_reducible refine ndrew_cell ?_))))
            (first | (go_at_call 75; refine (clone_any _ tl _ HRP1.out.drew HZ2.out).mono ?_; rintro e w2 ⟨v2, rfl, hv2, ho2, hk2⟩; have e7b := cell_keep hk2 (by simp) e7; have HV2 := hid hv2; have HO2 := hid ho2; have HK2 := hid hk2; clear hv2 ho2 hk2) | fail)
          have hk12 : Keeps [] w w2 := (HK1.out.trans (w' := w1) (HK2.out.pre1) (by simp))
          have e12b := cell_keep HK2.out (by simp) e12
          have HK12 := hid hk12
          have HC2 := hid (HC.out.keeps hk12 (by simp))
          have g7 := HC2.out.1.frozen 7
          have g12 := HC2.out.1.frozen 12
          have hvr := HV2.out
          obtain ⟨VA, vcap, rfl, hvc1, -⟩ := hvr.form
          rw [HTLL.out] at hvr hvc1 ⊢
          have HVR := hid hvr
          have HTROW : Hid (Row (w2.setCell ⟨p, 7, none⟩ (.slice (cutA IA m icap 1) (l - m) (icap - m))) 5 1 (.slice TA tn tcap) tn (bytesV d.told)) := by
            have h1 := HC2.out.2.2.2.2.1
            rw [HTN.out, HVT.out] at h1
            exact hid (h1.far (p := ⟨p, 7, none⟩) (fun k e => h1.blk_ne HC2.out.1 (by decide) k e) _)
          have hrd : Reads (w2.setCell ⟨p, 7, none⟩ (.slice (cutA IA m icap 1) (l - m) (icap - m))) 1 VA m (bytesV tl) := (hvr.far (p := ⟨p, 7, none⟩) (fun k e => hvr.blk_ne HC2.out.1 (by decide) k e) _).reads
          have HRD := hid hrd
          have hpt : p ∉ (Value.slice TA tn tcap).ownBlock.toList := fun hx => HTROW.out.blk_ne (HC2.out.1.set_ 7 _) (by decide) p (by simpa using hx) rfl
          have HPT := hid hpt
          clear hk12 hvr hrd hpt
          go_wp2_with (at_builtin; refine wpList_append_row _ rfl (.tmp 64) (.tmp 65) _ rfl 5 i1 _ 1 1 Try.underlying66 hi1 hy0 hy1 hy2 rfl (by omega) (.slice TA tn tcap) tn _ rfl HTROW.out VA m vcap (bytesV tl) rfl HRD.out (bytesV_one _) (by simp only [maxLen]; omega) (by omega) ?_; intro v5 w5 hv5 hk5 ho5; obtain ⟨A5, q5, rfl, -⟩ := hv5.form; have b5 := (HC2.out.1.set_ 7 (.slice (cutA IA m icap 1) (l - m) (icap - m))).keeps hk5 HPT.out; have j12 := b5.cell 12; have k12 := b5.frozen 12; simp [pc] at j12; have HV5 := hid hv5; have HK5 := hid hk5; have HO5 := hid ho5; clear b5 hv5 hk5 ho5)
          go_ret2
          have hdone := read_done (w := w2) (m := m) (l := l) (icap := icap) (IA := IA) (v5 := .slice A5 (tn + m) q5) (H.out.keeps HK12.out (by simp)) HP.out HC2.out (by rw [HVI.out, HL.out]) HL.out hml (by rw [HTN.out, HTL.out]; exact HV5.out) (by rw [HVT.out]; exact HK5.out)
            (fun k e => by
              rcases HO5.out k e with h1 | h1
              · exact .inl (by rw [HVT.out]; exact h1)
              · exact .inr (by simpa [World.setCell] using h1))
          rw [HTL.out, HD'.out] at hdone
          obtain ⟨⟨F', hr', hl'⟩, hkk⟩ := hdone
          have hFl : ∀ k ∈ F, k < w.heap.size := H.out.flt
          have hz12 := HK12.out.size
          have hog : ∀ k, (Value.slice VA m vcap).ownBlock = some k → w.heap.size ≤ k ∧ k < w2.heap.size := fun k e => by
            have h1 := HO2.out k (by
              cases VA with
              | none => simp [Value.ownBlock] at e
              | some a => simpa [Value.ownBlock] using e)
            simp at h1
            exact ⟨by omega, HVR.out.lt k e⟩
          refine ⟨_, F', rfl, hr', fun k hk => ?_, (HK12.out.mono (G := F) (by simp)).trans hkk (fun g hg => .inl hg), ?_, fun k e => ⟨(hog k e).1, fun hx => ?_⟩⟩
          · rcases hl' k hk with e | e
            · exact .inl e
            · exact .inr (by omega)
          · simp only
            rw [HTLL.out]
            exact HVR.out.keeps hkk (fun k e hx => by
              have := hFl k hx
              have := hog k e
              omega)
          · have h1 := hog k e
            rcases hl' k hx with e1 | e1
            · have := hFl k e1
              omega
            · omega
    · rw [if_neg h0]
      simp only
      rw [upd_self HD.out]
      simp [ptrIf, h0] at hv
      subst hv
      have HT0 := hid ht
      have hne : (t == 0) = false := by simp [h0]
      have hne2 : (t != 0) = true := by simp [h0]
      clear h0 ht
      go_enter Try.func42, Try.ntmps42
      go_wp2_with (go_at_call 74; refine (HT.out _ (Keeps.refl _ _)).mono ?_; rintro e w1 ⟨rfl, hk⟩)
      go_ret2
      exact ReadPost.none_ hR.out hk
end Go.Proofs.Ytkeffebcmajhmaa
/- The program's net: Close, Stop by contract. -/
namespace Go.Proofs.Ytkeffebcmajhmaa
open Go.RowKit
set_option linter.unusedVariables false
/-- a connection's cells have changed, and perhaps the net's own; no row has grown. -/
theorem NAt.fix {c : Cfg} {w w' : World} {n i p : Nat} {F G : List Nat} {own : Nat → Nat} {ps : List Nat} {vc vq vi vo vt : Value} {N N' : NS} {d' : Cn} (h : NAt c w n F own ps vc vq N) (hp : ps[i]? = some p) (hN : N'.cs = N.cs.set i d') (hQ : N'.queue = N.queue) (hk : Keeps G w w') (hG : ∀ k ∈ G, k = n ∨ k = p)
    (hn : Blk w' n c.NT (c.nlay N' vc vq)) (hc : CAt c w' own i p d' vi vo vt) : NAt c w' n F own ps vc vq N' := by
  have h2 := hc.2.1
  have hnot : ∀ k, own k ≠ 1 → own k ≠ 4 * i + 4 → k ∉ G := fun k a b hx => by
    rcases hG k hx with rfl | rfl
    · exact a h.tn
    · exact b h2
  refine ⟨h.ftag, fun k e => Nat.lt_of_lt_of_le (h.flt k e) hk.size, h.tn, hn, ?_, h.oc, ?_, h.oq, ?_, ?_⟩
  · rw [hN, List.length_set]
    exact h.rc.keeps hk (fun k e => hnot k (by rw [h.oc k e]; omega) (by rw [h.oc k e]; omega))
  · rw [hQ]
    exact h.rq.keeps hk (fun k e => hnot k (by rw [h.oq k e]; omega) (by rw [h.oq k e]; omega))
  · rw [hN, List.length_set, h.len]
  · intro j q e hq he
    rw [hN] at he
    by_cases hj : j = i
    · subst hj
      rw [hp] at hq
      injection hq with hq
      subst hq
      have hlt : j < N.cs.length := by
        have := (List.getElem?_eq_some_iff.1 hp).1
        have := h.len
        omega
      rw [List.getElem?_set_self hlt] at he
      injection he with he
      subst he
      exact ⟨vi, vo, vt, hc⟩
    · rw [List.getElem?_set_ne (by omega)] at he
      obtain ⟨ui, uo, ut, hu⟩ := h.at_ j q e hq he
      exact ⟨ui, uo, ut, hu.keeps hk (fun k a b => hnot k (by omega) (by omega))⟩
theorem closeN_snoc (l : List Int) (c : Int) : ∀ N : NS, closeN N (l ++ [c]) = ((close1 (closeN N l).1 c).1, (closeN N l).2 + (close1 (closeN N l).1 c).2) := by
  induction l with
  | nil => intro N; simp [closeN]
  | cons a l ih =>
    intro N
    simp only [List.cons_append, closeN]
    rw [ih]
    simp only [Prod.mk.injEq, true_and]
    omega
theorem close_nil (cv : Value) (l : List Int) (w : World) (hr : CellsIn w [] cv (l.map (.int .i64))) (hl : l.length ≤ 1099511627776) :
    Calls Try.prog 49 #[.pointer none, cv] w fun e w' => e = .returned (.int .i64 0) ∧ Keeps [] w w' := by
  have HR := hid hr
  obtain ⟨A, c, rfl, h1, h2⟩ := hr.shape
  simp only [List.length_map] at h1 HR ⊢
  clear hr
  go_enter Try.func49, Try.ntmps49
  go_wp2_with fail
  go_loopw [5, 11] (fun many j wr => ∃ k : Nat, k ≤ l.length ∧ j = .int .i64 k ∧ many = .int .i64 0 ∧ Keeps [] w wr) (fun _ j _ => l.length - (intOf j).toNat)
  case atStart => exact ⟨0, Nat.zero_le _, rfl, rfl, Keeps.refl _ _⟩
  case round =>
    obtain ⟨k, hk, rfl, rfl, hkp⟩ := hrel
    by_cases hlt : k < l.length
    · obtain ⟨b, o, rfl, -, hc⟩ := HR.out.at_ (by simp; omega)
      have c0 := cell_keep hkp (by simp) (hc k (.int .i64 (l[k])) (by simp [hlt]))
      have hki : (k : Int) < l.length := by omega
      obtain ⟨x, hx⟩ : ∃ x, l[k] = x := ⟨_, rfl⟩
      rw [hx] at c0
      clear hc hx
      go_wp2_with (go_at_call 76; refine (nat_nil _ _).mono ?_; rintro e w1 ⟨rfl, hk1⟩)
      go_roundw
      case rel => exact ⟨k + 1, by omega, by go_num, rfl, hkp.trans hk1 (by simp)⟩
      case measure => simp [intOf] <;> omega
    · go_wp2_with fail
      go_ret
      exact ⟨rfl, hkp⟩
set_option maxHeartbeats 1000000 in
theorem close_any (n : Nat) (F : List Nat) (N : NS) (B : Int) (cv : Value) (l : List Int) (w : World) (h : NRep pc w n F N) (hN : OkN N B) (hr : CellsIn w F cv (l.map (.int .i64))) (hl : l.length ≤ 1099511627776) :
    Calls Try.prog 49 #[.pointer (some ⟨n, 0, none⟩), cv] w fun e w' => e = .returned (.int .i64 (closeN N l).2) ∧ NDone pc w n F (closeN N l).1 w' := by
  obtain ⟨own, ps, vc, vq, h⟩ := h
  have H := hid h
  have HOK := hid hN
  have HR := hid hr
  obtain ⟨A, c, rfl, h1, h2⟩ := hr.shape
  simp only [List.length_map] at h1 HR ⊢
  have hnF : n ∈ F := h.ftag n (by rw [h.tn]; omega)
  clear hr h hN
  go_enter Try.func49, Try.ntmps49
  go_wp2_with fail
  go_loopw [5, 11] (fun many j wr => ∃ k : Nat, k ≤ l.length ∧ j = .int .i64 k ∧ many = .int .i64 (closeN N (l.take k)).2 ∧ 0 ≤ (closeN N (l.take k)).2 ∧ (closeN N (l.take k)).2 ≤ k ∧ NAt pc wr n F own ps vc vq (closeN N (l.take k)).1 ∧ Keeps F w wr) (fun _ j _ => l.length - (intOf j).toNat)
  case atStart => exact ⟨0, Nat.zero_le _, rfl, rfl, by simp [closeN], by simp [closeN], by simpa [closeN] using H.out, Keeps.refl _ _⟩
  case round =>
    obtain ⟨k, hk, rfl, rfl, hm0, hm1, hS, hkp⟩ := hrel
    have HS := hid hS
    have HKP := hid hkp
    clear hS hkp
    by_cases hlt : k < l.length
    · obtain ⟨b, o, rfl, hbF, hc⟩ := HR.out.at_ (by simp; omega)
      have c0 := cell_keep HKP.out hbF (hc k (.int .i64 (l[k])) (by simp [hlt]))
      have hki : (k : Int) < l.length := by omega
      obtain ⟨x, hx⟩ : ∃ x, l[k] = x := ⟨_, rfl⟩
      have HNX : Hid (l.take (k + 1) = l.take k ++ [x]) := by
        rw [List.take_add_one, List.getElem?_eq_getElem hlt, hx]
        exact hid rfl
      rw [hx] at c0
      have hok : OkN (closeN N (l.take k)).1 B := okN_close _ HOK.out
      have HSN := hid (closeN_snoc (l.take k) x N)
      obtain ⟨NK, hNK⟩ : ∃ r, closeN N (l.take k) = r := ⟨_, rfl⟩
      rw [hNK] at HS HSN hm0 hm1 hok ⊢
      obtain ⟨Nk, mk⟩ := NK
      have HE := hid hNK
      simp only at HS HSN hm0 hm1 hok ⊢
      clear hc hx hNK
      rcases HS.out.which x with hxk | ⟨i, p, d, rfl, hp, hd⟩
      · have HX := hid hxk
        have HC1 : Hid (close1 Nk x = (Nk, 0)) := by
          unfold close1
          rw [cnAt_none hxk]
          exact hid rfl
        clear hxk
        go_wp2_with (go_at_call 76; refine (nat_out HS.out _ HX.out).mono ?_; rintro e w1 ⟨rfl, hk1⟩)
        go_roundw
        case rel => exact ⟨k + 1, by omega, by go_num, by rw [HNX.out, HSN.out, HC1.out]; simp, by rw [HNX.out, HSN.out, HC1.out]; simp; omega, by rw [HNX.out, HSN.out, HC1.out]; simp; omega, by rw [HNX.out, HSN.out, HC1.out]; exact HS.out.keeps hk1 (by simp), HKP.out.trans hk1 (by simp)⟩
        case measure => simp [intOf] <;> omega
      · obtain ⟨vi, vo, vt, hcat⟩ := HS.out.at_ i p d hp hd
        have c1 := hcat.1.cell 1
        have f1 := hcat.1.frozen 1
        have c6 := HS.out.blk.cell 6
        have f6 := HS.out.blk.frozen 6
        simp [pc] at c1 c6
        have hpn : p ≠ n := fun e => by
          have a := HS.out.tn
          have b := hcat.2.1
          rw [← e, b] at a
          omega
        have hnp : n ≠ p := Ne.symm hpn
        have HP := hid hp
        have HD := hid hd
        have HC := hid hcat
        have hpF : p ∈ F := HS.out.ftag p (by rw [hcat.2.1]; omega)
        obtain ⟨bo, hbo⟩ : ∃ b, d.opn = b := ⟨_, rfl⟩
        rw [hbo] at c1
        have hop : 0 ≤ Nk.nopen ∧ Nk.nopen ≤ 65536 := by
          have h1 := hok.op
          have h2 := List.countP_le_length (p := fun d : Cn => d.opn) (l := Nk.cs)
          have h3 := hok.cl
          omega
        have hw1 : IntKind.i64.wrap (Nk.nopen - 1) = Nk.nopen - 1 := IntWalk.i64_in _ (by omega)
        cases bo with
        | false =>
          have HC1 : Hid (close1 Nk i = (Nk, 0)) := by
            unfold close1
            rw [cnAt_some hd]
            simp only
            rw [if_neg (by rw [hbo]; simp)]
            exact hid rfl
          clear hp hd hcat hbo hok hop
          go_wp2_with (go_at_call 76; refine (nat_in HS.out i p HP.out).mono ?_; rintro e w1 ⟨rfl, hk1⟩; have e1 := cell_keep hk1 (by simp) c1)
          go_roundw
          case rel => exact ⟨k + 1, by omega, by go_num, by rw [HNX.out, HSN.out, HC1.out]; simp, by rw [HNX.out, HSN.out, HC1.out]; simp; omega, by rw [HNX.out, HSN.out, HC1.out]; simp; omega, by rw [HNX.out, HSN.out, HC1.out]; exact HS.out.keeps hk1 (by simp), HKP.out.trans hk1 (by simp)⟩
          case measure => simp [intOf] <;> omega
        | true =>
          have HC1 : Hid (close1 Nk i = ({ Nk with cs := Nk.cs.set i { d with opn := false }, nopen := Nk.nopen - 1 }, 1)) := by
            unfold close1
            rw [cnAt_some hd]
            simp only
            rw [if_pos hbo]
            exact hid rfl
          clear hp hd hcat hbo hok
          go_wp2_with (go_at_call 76; refine (nat_in HS.out i p HP.out).mono ?_; rintro e w1 ⟨rfl, hk1⟩; have e1 := cell_keep hk1 (by simp) c1; have e6 := cell_keep hk1 (by simp) c6; have g1 := (HC.out.1.keeps hk1 (by simp)).frozen 1; have g6 := (HS.out.blk.keeps hk1 (by simp)).frozen 6; have HK1 := hid hk1; clear hk1)
          go_roundw
          case rel =>
            have hkk : Keeps [n, p] w1 ((w1.setCell ⟨p, 1, none⟩ (.bool false)).setCell ⟨n, 6, none⟩ (.int .i64 (Nk.nopen - 1))) := ((Keeps.refl [n, p] w1).setCell (p := ⟨p, 1, none⟩) (.inl (by simp)) _).setCell (p := ⟨n, 6, none⟩) (.inl (by simp)) _
            have hS1 := HS.out.keeps HK1.out (by simp)
            have hC1' := HC.out.keeps HK1.out (by simp)
            refine ⟨k + 1, by omega, by go_num, by rw [HNX.out, HSN.out, HC1.out], by rw [HNX.out, HSN.out, HC1.out]; simp; omega, by rw [HNX.out, HSN.out, HC1.out]; simp; omega, ?_, (HKP.out.trans HK1.out (by simp)).trans hkk (fun g hg => .inl (by simp at hg; rcases hg with rfl | rfl <;> assumption))⟩
            rw [HNX.out, HSN.out, HC1.out]
            refine hS1.fix (d' := { d with opn := false }) (vi := vi) (vo := vo) (vt := vt) HP.out rfl rfl hkk (by simp) ?_ ⟨?_, hC1'.2.1, ?_, ?_, ?_⟩
            · simpa [pc] using (hS1.blk.far (p := ⟨p, 1, none⟩) hnp (.bool false)).set_ 6 (.int .i64 (Nk.nopen - 1))
            · simpa [pc] using (hC1'.1.set_ 1 (.bool false)).far (p := ⟨n, 6, none⟩) hpn (.int .i64 (Nk.nopen - 1))
            all_goals
              have a := hC1'.2.1
              have b := hS1.tn
              refine BRow.keeps (K := [n, p]) ?_ hkk (fun k hk hx => by simp at hx; rcases hx with rfl | rfl <;> omega)
            · exact hC1'.2.2.1
            · exact hC1'.2.2.2.1
            · exact hC1'.2.2.2.2
          case measure => simp [intOf] <;> omega
    · have hkl : k = l.length := by omega
      subst hkl
      rw [List.take_length] at HS ⊢
      go_wp2_with fail
      go_ret
      exact ⟨rfl, ⟨F, ⟨own, ps, vc, vq, HS.out⟩, fun k hk => .inl hk⟩, HKP.out⟩
end Go.Proofs.Ytkeffebcmajhmaa
/- The program's net: Write, State, Stop (of nobody) by contract. -/
namespace Go.Proofs.Ytkeffebcmajhmaa
open Go.RowKit
set_option linter.unusedVariables false
set_option linter.unusedSimpArgs false
theorem stop_nil (w : World) : Calls Try.prog 62 #[.pointer none] w fun e w' => e = .returned (.tuple #[]) ∧ Keeps [] w w' := by
  go_enter Try.func62, Try.ntmps62
  go_wp2
  refine bodyPost_ret (results_none rfl _ _ _) rfl ?_
  exact ⟨rfl, Keeps.refl _ _⟩
theorem state_nil (k : Int) (w : World) : Calls Try.prog 65 #[.pointer none, .int .i64 k] w fun e w' => e = .returned (.agg #[.bool false, .bool false, .bool false, .int .i64 0]) ∧ Keeps [] w w' := by
  go_enter Try.func65, Try.ntmps65
  go_wp2_with fail
  have hb := Blk.new w 112 #[.bool false, .bool false, .bool false, .int .i64 0]
  refine (nat_nil _ _).mono ?_
  rintro e w1 ⟨rfl, hk⟩
  have hb1 := hb.keeps hk (by simp)
  have c0 := hb1.cell 0
  have c1 := hb1.cell 1
  have c2 := hb1.cell 2
  have c3 := hb1.cell 3
  have f0 := hb1.frozen 0
  have f1 := hb1.frozen 1
  have f2 := hb1.frozen 2
  have f3 := hb1.frozen 3
  simp at c0 c1 c2 c3
  have HK := hid hk
  clear hb hb1 hk
  go_wp2_with fail
  refine bodyPost_ret (v := .agg #[.bool false, .bool false, .bool false, .int .i64 0]) (by simp [results, Try.results65, go_sem, c0, c1, c2, c3]) rfl ⟨rfl, ?_⟩
  exact ((((((Keeps.refl [] w).alloc _).trans HK.out (by simp)).setCell (p := ⟨w.heap.size, 0, none⟩) (.inr (Nat.le_refl _)) _).setCell (p := ⟨w.heap.size, 1, none⟩) (.inr (Nat.le_refl _)) _).setCell (p := ⟨w.heap.size, 2, none⟩) (.inr (Nat.le_refl _)) _).setCell (p := ⟨w.heap.size, 3, none⟩) (.inr (Nat.le_refl _)) _
theorem state_any (n : Nat) (F : List Nat) (N : NS) (k : Int) (w : World) (h : NRep pc w n F N) :
    Calls Try.prog 65 #[.pointer (some ⟨n, 0, none⟩), .int .i64 k] w fun e w' => e = .returned (.agg #[.bool (stateN N k).1, .bool (stateN N k).2.1, .bool (stateN N k).2.2.1, .int .i64 (stateN N k).2.2.2]) ∧ Keeps [] w w' := by
  obtain ⟨own, ps, vc, vq, h⟩ := h
  have H := hid h
  have hb := Blk.new w 112 #[.bool false, .bool false, .bool false, .int .i64 0]
  have HB := hid hb
  unfold stateN
  rcases h.which k with hk | ⟨i, p, d, rfl, hp, hd⟩
  · rw [cnAt_none hk]
    have HK := hid hk
    clear h hk hb
    simp only
    go_enter Try.func65, Try.ntmps65
    go_wp2_with fail
    refine (nat_out (H.out.keeps ((Keeps.refl [] w).alloc _) (by simp)) _ HK.out).mono ?_
    rintro e w1 ⟨rfl, hk⟩
    have hb1 := HB.out.keeps hk (by simp)
    have c0 := hb1.cell 0
    have c1 := hb1.cell 1
    have c2 := hb1.cell 2
    have c3 := hb1.cell 3
    have f0 := hb1.frozen 0
    have f1 := hb1.frozen 1
    have f2 := hb1.frozen 2
    have f3 := hb1.frozen 3
    simp at c0 c1 c2 c3
    have HK1 := hid hk
    clear hb1 hk
    go_wp2_with fail
    refine bodyPost_ret (v := .agg #[.bool false, .bool false, .bool false, .int .i64 0]) (by simp [results, Try.results65, go_sem, c0, c1, c2, c3]) rfl ⟨rfl, ?_⟩
    exact ((((((Keeps.refl [] w).alloc _).trans HK1.out (by simp)).setCell (p := ⟨w.heap.size, 0, none⟩) (.inr (Nat.le_refl _)) _).setCell (p := ⟨w.heap.size, 1, none⟩) (.inr (Nat.le_refl _)) _).setCell (p := ⟨w.heap.size, 2, none⟩) (.inr (Nat.le_refl _)) _).setCell (p := ⟨w.heap.size, 3, none⟩) (.inr (Nat.le_refl _)) _
  · rw [cnAt_some hd]
    obtain ⟨vi, vo, vt, hc⟩ := h.at_ i p d hp hd
    have HP := hid hp
    have HC := hid hc
    obtain ⟨b0, hb0⟩ : ∃ b, d.waits = b := ⟨_, rfl⟩
    obtain ⟨b1, hb1⟩ : ∃ b, d.opn = b := ⟨_, rfl⟩
    obtain ⟨b2, hb2⟩ : ∃ b, d.broken = b := ⟨_, rfl⟩
    obtain ⟨b3, hb3⟩ : ∃ b, d.peer = b := ⟨_, rfl⟩
    simp only [hb0, hb1, hb2, hb3]
    have hpw : p ≠ w.heap.size := by have := hc.1.lt; omega
    have HBD := hid (And.intro hb0 (And.intro hb1 (And.intro hb2 hb3)))
    clear h hc hp hd hb hb0 hb1 hb2 hb3
    go_enter Try.func65, Try.ntmps65
    go_wp2_with fail
    refine (nat_in (H.out.keeps ((Keeps.refl [] w).alloc _) (by simp)) i p HP.out).mono ?_
    rintro e w1 ⟨rfl, hk⟩
    have hb1 := HB.out.keeps hk (by simp)
    have c0 := hb1.cell 0
    have c1 := hb1.cell 1
    have c2 := hb1.cell 2
    have c3 := hb1.cell 3
    have f0 := hb1.frozen 0
    have f1 := hb1.frozen 1
    have f2 := hb1.frozen 2
    have f3 := hb1.frozen 3
    simp at c0 c1 c2 c3
    have hc1 := (HC.out.1.alloc (.cells #[.bool false, .bool false, .bool false, .int .i64 0] 112)).keeps hk (by simp)
    have d0 := hc1.cell 0
    have d1 := hc1.cell 1
    have d2 := hc1.cell 2
    have d3 := hc1.cell 3
    simp [pc] at d0 d1 d2 d3
    rw [HBD.out.1] at d0
    rw [HBD.out.2.1] at d1
    rw [HBD.out.2.2.1] at d2
    rw [HBD.out.2.2.2] at d3
    have HK1 := hid hk
    clear hb1 hk hc1
    go_wp2_with fail
    refine bodyPost_ret (v := .agg #[.bool b0, .bool b1, .bool b2, .int .i64 b3]) (by simp [results, Try.results65, go_sem, c0, c1, c2, c3]) rfl ⟨rfl, ?_⟩
    exact ((((((Keeps.refl [] w).alloc _).trans HK1.out (by simp)).setCell (p := ⟨w.heap.size, 0, none⟩) (.inr (Nat.le_refl _)) _).setCell (p := ⟨w.heap.size, 1, none⟩) (.inr (Nat.le_refl _)) _).setCell (p := ⟨w.heap.size, 2, none⟩) (.inr (Nat.le_refl _)) _).setCell (p := ⟨w.heap.size, 3, none⟩) (.inr (Nat.le_refl _)) _
set_option maxRecDepth 100000 in
set_option maxHeartbeats 2000000 in
theorem write_any (n : Nat) (F : List Nat) (N : NS) (B k : Int) (pv : Value) (b : List Int) (w : World) (h : NRep pc w n F N) (hN : OkN N B) (hB : B ≤ 1099511627776) (hr : CellsIn w F pv (bytesV b)) :
    Calls Try.prog 41 #[.pointer (some ⟨n, 0, none⟩), .int .i64 k, pv] w fun e w' => e = .returned (.tuple #[.int .i64 (writeN N k b).2.1, .int .i64 (writeN N k b).2.2]) ∧ NDone pc w n F (writeN N k b).1 w' := by
  have hR := hid h
  obtain ⟨own, ps, vc, vq, h⟩ := h
  have H := hid h
  obtain ⟨i1, hi1, hy0, hy1, hy2⟩ := info_parts u8_info
  unfold writeN
  rcases h.which k with hk | ⟨i, p, d, rfl, hp, hd⟩
  · rw [onConn_none hk]
    have HK := hid hk
    clear h hk hN hr
    simp only
    go_enter Try.func41, Try.ntmps41
    go_wp2_with (go_at_call 74; refine (ours_out H.out _ HK.out).mono ?_; rintro e w1 ⟨rfl, hk⟩)
    go_ret2
    exact ⟨rfl, NDone.same hR.out hk⟩
  · rw [onConn_some hd]
    obtain ⟨vi, vo, vt, hc⟩ := h.at_ i p d hp hd
    have hok := hN.cn d (List.mem_of_getElem? hd)
    have hu0 := hok.w0
    have hu1 := hok.w1
    have hgot := hok.got
    have HD := hid hd
    have HP := hid hp
    have HC := hid hc
    have c5 := hc.1.cell 5
    have c8 := hc.1.cell 8
    have c11 := hc.1.cell 11
    simp [pc] at c5 c8 c11
    obtain ⟨t, ht⟩ : ∃ t, oursD d = t := ⟨_, rfl⟩
    obtain ⟨v, hv⟩ : ∃ v, ptrIf t p = v := ⟨_, rfl⟩
    have HT := hid (ours_W h hp hd ht hv)
    have HRW := hid hr
    obtain ⟨PA, pcap, rfl, hpc1, hpc2⟩ := hr.shape
    simp only [bytesV_length] at hpc1 HRW ⊢
    clear h hN hok hp hd hc hr
    unfold writeD
    rw [ht]
    by_cases h0 : t = 0
    · subst h0
      simp [ptrIf] at hv
      subst hv
      rw [if_pos rfl]
      clear ht
      obtain ⟨sh, hsh⟩ : ∃ b, d.shut = b := ⟨_, rfl⟩
      obtain ⟨u, hu⟩ : ∃ u, d.window = u := ⟨_, rfl⟩
      obtain ⟨l, hl⟩ : ∃ l, b.length = l := ⟨_, rfl⟩
      rw [hsh] at c5
      rw [hu] at c8 hu0 hu1
      rw [hl] at hpc1 HRW ⊢
      have HSH := hid hsh
      have HU := hid hu
      have HL := hid hl
      cases sh with
      | true =>
        rw [if_pos hsh]
        simp only
        rw [upd_self HD.out]
        clear hsh hu hl
        go_enter Try.func41, Try.ntmps41
        go_wp2_with (go_at_call 74; refine (HT.out _ (Keeps.refl _ _)).mono ?_; rintro e w1 ⟨rfl, hk⟩; have e5 := cell_keep hk (by simp) c5)
        go_ret2
        exact ⟨rfl, NDone.same hR.out hk⟩
      | false =>
        rw [if_neg (by rw [hsh]; simp)]
        by_cases hl0 : l = 0
        · subst hl0
          rw [if_pos (List.eq_nil_of_length_eq_zero hl)]
          simp only
          rw [upd_self HD.out]
          clear hsh hu hl
          go_enter Try.func41, Try.ntmps41
          go_wp2_with (go_at_call 74; refine (HT.out _ (Keeps.refl _ _)).mono ?_; rintro e w1 ⟨rfl, hk⟩; have e5 := cell_keep hk (by simp) c5)
          go_ret2
          exact ⟨rfl, NDone.same hR.out hk⟩
        · have hbn : b ≠ [] := fun e => hl0 (by rw [← hl, e]; rfl)
          rw [if_neg hbn]
          have hlb : ((l : Int) == 0) = false := by simp; omega
          by_cases hu00 : u = 0
          · rw [if_pos (by rw [hu]; exact hu00)]
            subst hu00
            simp only
            rw [upd_self HD.out]
            clear hsh hu hl hl0 hbn
            go_enter Try.func41, Try.ntmps41
            go_wp2_with (go_at_call 74; refine (HT.out _ (Keeps.refl _ _)).mono ?_; rintro e w1 ⟨rfl, hk⟩; have e5 := cell_keep hk (by simp) c5; have e8 := cell_keep hk (by simp) c8)
            go_ret2
            exact ⟨rfl, NDone.same hR.out hk⟩
          · rw [if_neg (by rw [hu]; exact hu00)]
            have hub : (u == 0) = false := by simp [hu00]
            obtain ⟨m, hm⟩ : ∃ m, min l d.window.toNat = m := ⟨_, rfl⟩
            rw [hm]
            have hml : m ≤ l := by omega
            have hmu : (m : Int) ≤ u := by omega
            have hm1 : m ≤ 1099511627776 := by omega
            have hcase : ((m : Int) = l ∧ ¬ (u < (l : Int))) ∨ ((m : Int) = u ∧ u < (l : Int)) := by omega
            obtain ⟨tl, htl⟩ : ∃ tl, b.take m = tl := ⟨_, rfl⟩
            have htll : tl.length = m := by rw [← htl, List.length_take]; omega
            obtain ⟨D', hD'⟩ : ∃ D' : Cn, ({ d with got := d.got ++ b.take m, window := d.window - (m : Nat) } : Cn) = D' := ⟨_, rfl⟩
            rw [hD']
            rw [htl] at hD'
            have HTL := hid htl
            have HTLL := hid htll
            have HD' := hid hD'
            have hmin : ∀ (ts : Array TypeId) (t : TypeId) (wx : World), (Builtin.min_ ts t #[.int .i64 (l : Int), .int .i64 u]).run Try.prog wx = .ok (.int .i64 (m : Int)) wx := by
              intro ts t wx
              rw [run_min_int2]
              rcases hcase with ⟨h1, h2⟩ | ⟨h1, h2⟩
              · rw [if_neg h2, h1]
              · rw [if_pos h2, h1]
            have hsl := fun wx => run_cut_hi (P := Try.prog) wx 66 5 i1 1 Try.underlying66 hi1 hy1 PA l pcap m (m : Int) rfl .i64 (by omega)
            have hw1 : IntKind.i64.wrap (u - (m : Int)) = u - (m : Int) := IntWalk.i64_in _ (by omega)
            obtain ⟨GA, gcap, hvo, hgc1, -⟩ := HC.out.2.2.2.1.1.form
            obtain ⟨gn, hgn⟩ : ∃ gn, d.got.length = gn := ⟨_, rfl⟩
            rw [hgn] at hvo hgc1 hgot
            rw [hvo] at c11
            have HGN := hid hgn
            have HVO := hid hvo
            have HRD0 : Hid (Reads w 1 (cutA PA 0 pcap 1) m (bytesV tl)) := by
              have h1 := (HRW.out.cut (lo := 0) (hi := m) (Nat.zero_le _) hml).reads.2
              simp only [Nat.sub_zero, List.drop_zero] at h1
              rw [← htl, bytesV_take]
              exact hid h1
            have hAF : ∀ ad, cutA PA 0 pcap 1 = some ad → 0 < m → ad.block ∉ F := by
              intro ad had hm0
              obtain ⟨A', c', hv', h1', h2', h3'⟩ := (HRW.out.cut (lo := 0) (hi := m) (Nat.zero_le _) hml)
              injection hv' with hA'
              obtain ⟨bb, oo, hA2, hbF, -⟩ := h3' (by simp; simp only [List.length_take, List.length_drop, bytesV_length] at *; omega)
              rw [hA', hA2] at had
              injection had with had
              rw [← had]
              exact hbF
            clear hsh hu hl hl0 hbn hu00 hm htl hcase hD' htll hgn hvo
            go_enter Try.func41, Try.ntmps41
            go_wp2_with (first
              | (go_at_call 74; refine (HT.out _ (Keeps.refl _ _)).mono ?_; rintro e w1 ⟨rfl, hk⟩; have e5 := cell_keep hk (by simp) c5; have e8 := cell_keep hk (by simp) c8; have e11 := cell_keep hk (by simp) c11; have HK1 := hid hk; clear hk)
              | (at_builtin; refine wpList_append_row _ rfl (.tmp 48) (.tmp 49) _ rfl 5 i1 _ 1 1 Try.underlying66 hi1 hy0 hy1 hy2 rfl (by omega) (.slice GA gn gcap) gn (bytesV d.got) rfl (by have h1 := HC.out.2.2.2.1.1.keeps HK1.out (by simp); rw [HGN.out, HVO.out] at h1; exact h1) (cutA PA 0 pcap 1) m pcap (bytesV tl) rfl (HRD0.out.keeps HK1.out (by simp)) (bytesV_one _) (by simp only [maxLen]; omega) (by omega) ?_; intro v5 w5 hv5 hk5 ho5; obtain ⟨A5, q5, rfl, -⟩ := hv5.form; have hpt : p ∉ (Value.slice GA gn gcap).ownBlock.toList := (by rw [← HVO.out]; exact pnot (i := i) (vi := vi) (vo := vo) (vt := vt) HC.out.2.2.2.1.2 (by rw [HC.out.2.1]; omega)); have b5 := (HC.out.1.keeps HK1.out (by simp)).keeps hk5 hpt; have j11 := b5.cell 11; have k11 := b5.frozen 11; have j8 := b5.cell 8; have k8 := b5.frozen 8; simp [pc] at j11 j8; rw [HU.out] at j8; have HV5 := hid hv5; have HK5 := hid hk5; have HO5 := hid ho5; clear b5 hpt hv5 hk5 ho5))
            go_ret2
            refine ⟨rfl, NDone.after (H.out.keeps HK1.out (by simp)) HK1.out ?_⟩
            have hdone := write_done (w := w1) (m := m) (b := tl) (u := u - (m : Int)) (v5 := .slice A5 (gn + m) q5) (H.out.keeps HK1.out (by simp)) HP.out (HC.out.keeps HK1.out (by simp)) HTLL.out (by rw [HGN.out]; exact HV5.out) (by rw [HVO.out]; exact HK5.out) (by rw [HVO.out]; exact HO5.out)
            rw [← HD'.out, HU.out]
            exact hdone
    · rw [if_neg h0]
      simp only
      rw [upd_self HD.out]
      simp [ptrIf, h0] at hv
      subst hv
      have HT0 := hid ht
      have hne : (t == 0) = false := by simp [h0]
      have hne2 : (t != 0) = true := by simp [h0]
      clear h0 ht
      go_enter Try.func41, Try.ntmps41
      go_wp2_with (go_at_call 74; refine (HT.out _ (Keeps.refl _ _)).mono ?_; rintro e w1 ⟨rfl, hk⟩)
      go_ret2
      exact ⟨rfl, NDone.same hR.out hk⟩
end Go.Proofs.Ytkeffebcmajhmaa
