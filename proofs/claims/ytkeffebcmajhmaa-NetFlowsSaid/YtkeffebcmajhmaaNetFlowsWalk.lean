/- The walk of NetFlows. -/
import Derived.Test.YtkeffebcmajhmaaNet20
import Derived.Test.YtkeffebcmajhmaaNetLineWalk
import Derived.Test.YtkeffebcmajhmaaNetEndsWalk
namespace Go.Proofs.Ytkeffebcmajhmaa
open Go.RowKit
set_option linter.unusedVariables false
set_option maxRecDepth 100000 in
set_option maxHeartbeats 1000000 in
theorem netFlows_out (w : World) (iv ov cv : Value) (I O cs : List Int) (hi : CellsIn w [] iv (bytesV I)) (ho : CellsIn w [] ov (bytesV O)) (hc : CellsIn w [] cv (cs.map (.int .i64))) (h : 4000 < I.length ∨ (I.length ≤ 4000 ∧ 4000 < O.length) ∨ (I.length ≤ 4000 ∧ O.length ≤ 4000 ∧ 300 < cs.length)) :
    Calls Try.prog 9 #[iv, ov, cv] w fun e w' => e = .returned (.bool true) ∧ Below w.heap.size w w' := by
  obtain ⟨A, ac, rfl, h1, h2⟩ := hi.shape
  obtain ⟨B, bc, rfl, h3, h4⟩ := ho.shape
  obtain ⟨C, cc, rfl, h5, h6⟩ := hc.shape
  simp only [List.length_map, bytesV_length] at h1 h3 h5 ⊢
  clear hi ho hc
  rcases h with h | ⟨h0, h⟩ | ⟨h0, h7, h⟩
  · have g1 : (4000 : Int) < I.length := by omega
    go_enter Try.func9, Try.ntmps9
    go_wp2_with (go_at_call 33; refine (nknown_any _).mono ?_; rintro e w5 ⟨rfl, hk5⟩)
    go_ret
    exact ⟨rfl, hk5.below (Nat.le_refl _) (by simp)⟩
  · have g1 : ¬ (4000 : Int) < I.length := by omega
    have g2 : (4000 : Int) < O.length := by omega
    go_enter Try.func9, Try.ntmps9
    go_wp2_with (go_at_call 33; refine (nknown_any _).mono ?_; rintro e w5 ⟨rfl, hk5⟩)
    go_ret
    exact ⟨rfl, hk5.below (Nat.le_refl _) (by simp)⟩
  · have g1 : ¬ (4000 : Int) < I.length := by omega
    have g2 : ¬ (4000 : Int) < O.length := by omega
    have g3 : (300 : Int) < cs.length := by omega
    go_enter Try.func9, Try.ntmps9
    go_wp2_with (go_at_call 33; refine (nknown_any _).mono ?_; rintro e w5 ⟨rfl, hk5⟩)
    go_ret
    exact ⟨rfl, hk5.below (Nat.le_refl _) (by simp)⟩
set_option maxRecDepth 100000 in
set_option maxHeartbeats 8000000 in
theorem netFlows_in (w : World) (iv ov cv : Value) (I O cs : List Int) (hi : CellsIn w [] iv (bytesV I)) (ho : CellsIn w [] ov (bytesV O)) (hc : CellsIn w [] cv (cs.map (.int .i64))) (hI : I.length ≤ 4000) (hO : O.length ≤ 4000) (hC : cs.length ≤ 300) :
    Calls Try.prog 9 #[iv, ov, cv] w fun e w' => e = .returned (.bool true) ∧ Below w.heap.size w w' := by
  obtain ⟨i1, hi1, hy0, hy1, hy2⟩ := info_parts u8_info
  have HI := hid hi
  have HOU := hid ho
  have HCS := hid hc
  obtain ⟨A, ac, rfl, h1, h2⟩ := hi.shape
  obtain ⟨D, bc, rfl, h3, h4⟩ := ho.shape
  obtain ⟨C, cc, rfl, h5, h6⟩ := hc.shape
  simp only [List.length_map, bytesV_length] at h1 h3 h5 HI HOU HCS ⊢
  clear hi ho hc
  obtain ⟨li, hli⟩ : ∃ l, I.length = l := ⟨_, rfl⟩
  obtain ⟨lo, hlo⟩ : ∃ l, O.length = l := ⟨_, rfl⟩
  rw [hli] at h1 hI HI ⊢
  rw [hlo] at h3 hO HOU ⊢
  have HLI := hid hli
  have HLO := hid hlo
  clear hli hlo
  have g1 : ¬ (4000 : Int) < li := by omega
  have g2 : ¬ (4000 : Int) < lo := by omega
  have g3 : ¬ (300 : Int) < cs.length := by omega
  go_enter Try.func9, Try.ntmps9
  go_wp2_with fail
  refine (nnew_S 1 w _ (Keeps.refl [] w) (by omega) (by omega)).mono ?_
  rintro e w1 ⟨n, rfl, hs1⟩
  have HS1 := hid hs1
  have O0 := okN_new 1 (by omega) (by omega)
  have O1 := okN_connect O0 0 (by omega)
  rw [ee0] at O1
  have O2 := okN_accept O1
  rw [nF_zero I O] at O2
  have HO0 := hid O0
  have HO1 := hid O1
  have HO2 := hid O2
  clear hs1 O0 O1 O2
  go_wp2_with fail
  refine (connect_S HS1.out HO0.out (by omega) 0).mono ?_
  rw [ee0]
  rintro e w2 ⟨rfl, hs2⟩
  have HS2 := hid hs2
  clear HS1 hs2
  go_wp2_with fail
  refine (accept_S HS2.out HO1.out (by omega)).mono ?_
  rw [nF_zero I O]
  rintro e w3 ⟨rfl, hs3⟩
  have HS3 := hid (hs3.more (v := .slice none 0 0) (l := I.take 0) (Keeps.refl [] w3) (by simpa [bytesV] using Row.nil w3 5 1) (by simp [Value.ownBlock]))
  clear HS2 hs3
  go_wp2_with fail
  go_loopw [12, 13, 14, 15] (fun av bv cv jv wr => ∃ (j a b t : Nat) (u r s : Int), j ≤ cs.length ∧ jv = .int .i64 j ∧ av = .int .i64 a ∧ bv = .int .i64 b ∧ a ≤ li ∧ b ≤ lo ∧ t ≤ a ∧ a - t ≤ 1024 ∧ NSt w pc [(cv, I.take t)] wr n (nF I O a b t u r s) ∧ OkN (nF I O a b t u r s) (6000 * (j : Int) + 10)) (fun _ _ _ jv _ => cs.length - (intOf jv).toNat)
  case atStart => exact ⟨0, 0, 0, 0, 0, 0, 0, Nat.zero_le _, rfl, rfl, rfl, by omega, by omega, by omega, by omega, HS3.out, HO2.out.mono (by omega)⟩
  case round =>
    clear HS3 HO2 HO0 HO1
    obtain ⟨j, a, b, t, u, r, s, hj, rfl, rfl, rfl, ha, hb, hta, hat, hS, hOk⟩ := hrel
    have HS := hid hS
    have HO := hid hOk
    have hrow := hS.row (List.mem_cons_self ..)
    have htl : (I.take t).length = t := by rw [List.length_take, HLI.out]; omega
    obtain ⟨CA, ccap, hcv, hcc, hccm, -⟩ := hrow.form
    rw [htl] at hcv hcc
    simp only at hcv
    subst hcv
    have HTL := hid htl
    clear hS hOk hrow htl
    have hccm2 : ccap ≤ 9223372036854775807 := by unfold maxLen at hccm; omega
    by_cases hlt : j < cs.length
    · obtain ⟨pb, po, rfl, -, hcc0⟩ := HCS.out.at_ (by simp; omega)
      obtain ⟨z, hzj⟩ : ∃ z, cs[j]? = some z := ⟨cs[j], List.getElem?_eq_getElem hlt⟩
      have HCELL := hid (hcc0 j (.int .i64 z) (by simp [hzj]))
      have c0 := cell_keep HS.out.keepsW (by simp) HCELL.out
      have hji : (j : Int) < cs.length := by omega
      obtain ⟨q1, hq1, hq1l⟩ := nand_mask z 511 (by omega)
      have hq1' : bits BinOp.and IntKind.i64 z 511 = (q1 : Int) := hq1
      obtain ⟨K, hK⟩ : ∃ K, min (li - a) q1 = K := ⟨_, rfl⟩
      have hKa : a + K ≤ li := by omega
      have hw1 : IntKind.i64.wrap ((li : Int) - (a : Int)) = (li : Int) - (a : Int) := IntWalk.i64_in _ (by omega)
      have hmin : ∀ (ts : Array TypeId) (t : TypeId) (wx : World), (Builtin.min_ ts t #[.int .i64 ((li : Int) - (a : Int)), .int .i64 (q1 : Int)]).run Try.prog wx = .ok (.int .i64 (K : Int)) wx := by
        intro ts t wx
        rw [run_min_int2]
        split
        · rw [show (K : Int) = q1 by omega]
        · rw [show (K : Int) = (li : Int) - a by omega]
      have hw2 : IntKind.i64.wrap ((a : Int) + (K : Int)) = (a : Int) + (K : Int) := IntWalk.i64_in _ (by omega)
      have hsl := fun wx => run_cut (P := Try.prog) wx 66 5 i1 1 Try.underlying66 hi1 hy1 A li ac a (a + K) (a : Int) ((a : Int) + (K : Int)) rfl (by simp) .i64 .i64 (by omega) (by omega)
      have hsub : a + K - a = K := by omega
      simp only [hsub] at hsl
      obtain ⟨m, r', hmK, hat2, hsend⟩ := sendF I O a b t K u r s hta (by rw [HLI.out]; omega) hat
      have HSEND := hid hsend
      have HROW : Hid (∀ F W, (∀ k ∈ F, w.heap.size ≤ k ∧ k < W.heap.size) → Keeps [] w W → RowsIn (W.alloc (.cells #[.slice (cutA A a ac 1) K (ac - a)] 66)) F (.slice (some ⟨W.heap.size, 0, none⟩) 1 1) [(.slice (cutA A a ac 1) K (ac - a), (I.drop a).take K)]) := by
        refine hid fun F W hF hW => rows_one (w0 := w) ?_ hW hF
        have h9 := HI.out.cut (lo := a) (hi := a + K) (by omega) (by omega)
        rw [hsub] at h9
        rw [bytesV_take, bytesV_drop]
        exact h9
      have O4 := okN_send HO.out 0 [(I.drop a).take K]
      rw [hsend] at O4
      have HO4 := hid O4
      clear hcc0 hzj hq1 hK hsend hsub O4
      go_wp2_with fail
      refine (send_S HS.out ((Keeps.refl [] wr).alloc _) HO.out (by omega) 0 _ [(.slice (cutA A a ac 1) K (ac - a), (I.drop a).take K)] (fun F hF => HROW.out F _ hF HS.out.keepsW)).mono ?_
      simp only [List.map_cons, List.map_nil]
      rw [HSEND.out]
      rintro e w4 ⟨rfl, hs4⟩
      have HS4 := hid hs4
      have c4 := cell_keep hs4.keepsW (by simp) HCELL.out
      clear hs4 c0 hsl hmin hw1 hw2
      have hmi : (m : Int) ≤ K := by omega
      have hmn : ¬ (K : Int) < m := by omega
      obtain ⟨q2, hq2, -⟩ := nand_mask (z / 512) 63 (by omega)
      have hq2' : bits BinOp.and IntKind.i64 (z / 512) 63 = (q2 : Int) := hq2
      obtain ⟨q3, hq3, hq3l⟩ := nand_mask (z / 32768) 511 (by omega)
      have hq3' : bits BinOp.and IntKind.i64 (z / 32768) 511 = (q3 : Int) := hq3
      have hw3 : IntKind.i64.wrap (1 + (q3 : Int)) = 1 + (q3 : Int) := IntWalk.i64_in _ (by omega)
      have ham : a + m ≤ li := by omega
      obtain ⟨u', s', hopen⟩ := openF I O (a + m) b t u r' s (q2 : Int) (by omega)
      have HOPEN := hid hopen
      have O5 := okN_open HO4.out 0 (q2 : Int)
      rw [hopen] at O5
      have HO5 := hid O5
      clear hq1' hq2 hq3 hopen O5
      go_wp2_with fail
      refine (open_S HS4.out HO4.out (by omega) 0 q2).mono ?_
      rw [HOPEN.out]
      rintro e w5 ⟨rfl, hs5⟩
      have HS5 := hid hs5
      have c5 := cell_keep hs5.keepsW (by simp) HCELL.out
      have hsl2 := fun wx => run_cut_lo (P := Try.prog) wx 66 5 i1 1 Try.underlying66 hi1 hy1 D lo bc b (b : Int) rfl .i64 hb
      obtain ⟨m2, u2, h2e, hbm, hh, hwrite⟩ := writeF I O (a + m) b t u' r' s' (by rw [HLO.out]; exact hb)
      rw [HLO.out] at hbm
      have HWRITE := hid hwrite
      have O6 := okN_write HO5.out 0 (O.drop b)
      rw [hwrite] at O6
      have hdl : (O.drop b).length ≤ 4000 := by rw [List.length_drop, HLO.out]; omega
      have HO6 : Hid (OkN (nF I O (a + m) (b + m2) t u2 r' s') (6000 * (j : Int) + 10 + 1 + 1 + 4000)) := hid (O6.mono (by omega))
      have HOB : Hid (CellsIn w [] (.slice (cutA D b bc 1) (lo - b) (bc - b)) (bytesV (O.drop b))) := by
        have h9 := HOU.out.cut (lo := b) (hi := lo) hb (Nat.le_refl _)
        have h10 : ((bytesV O).drop b).take (lo - b) = bytesV (O.drop b) := by
          rw [bytesV_drop, List.take_of_length_le]
          rw [List.length_drop, bytesV_length, HLO.out]
          exact Nat.le_refl _
        rw [h10] at h9
        exact hid h9
      clear HS4 hs5 c4 hwrite O6 hdl
      go_wp2_with fail
      refine (write_S HS5.out HO5.out (by omega) 0 _ (O.drop b) HOB.out).mono ?_
      rw [HWRITE.out]
      rintro e w6 ⟨rfl, hs6⟩
      have HS6 := hid hs6
      have c6 := cell_keep hs6.keepsW (by simp) HCELL.out
      have hm2i : (0 : Int) ≤ (m2 : Int) := by omega
      have hw5 : IntKind.i64.wrap ((lo : Int) - (b : Int)) = (lo : Int) - (b : Int) := IntWalk.i64_in _ (by omega)
      have hm2n : ¬ ((lo : Int) - (b : Int) < m2) := by omega
      obtain ⟨q, hr, htq, hread⟩ := readF I O (a + m) (b + m2) t u2 r' s' (1 + (q3 : Int)) (by omega) (by omega) (by rw [HLI.out]; omega)
      have HREAD := hid hread
      have O7 := okN_read HO6.out 0 (1 + (q3 : Int))
      rw [hread] at O7
      have HO7 := hid O7
      have hpl : ((I.drop t).take q).length = q := by rw [List.length_take, List.length_drop, HLI.out]; omega
      have HPL := hid hpl
      have htk : I.take (t + q) = I.take t ++ (I.drop t).take q := List.take_add
      have HTK := hid htk
      have hw6 : IntKind.i64.wrap ((a : Int) + (m : Int)) = (a : Int) + (m : Int) := IntWalk.i64_in _ (by omega)
      have hw7 : IntKind.i64.wrap ((b : Int) + (m2 : Int)) = (b : Int) + (m2 : Int) := IntWalk.i64_in _ (by omega)
      clear HS5 hs6 c5 hsl2 hread O7 hpl htk
      rcases hh with rfl | rfl
      all_goals
        go_wp2_with fail
        refine (read_S HS6.out HO6.out (by omega) 0 (1 + (q3 : Int)) (by omega)).mono ?_
        rw [HREAD.out]
        rintro e w7 ⟨v7, rfl, hs7⟩
        have hrow7 := hs7.row (List.mem_cons_self ..)
        have hrowc := hs7.row (r := (.slice CA t ccap, I.take t)) (by simp)
        obtain ⟨PA, pcap, hv7, hpc, -⟩ := hrow7.form
        rw [HPL.out] at hv7 hpc
        simp only at hv7
        subst hv7
        simp only at hrow7 hrowc
        rw [HPL.out] at hrow7
        rw [HTL.out] at hrowc
        have HR7 := hid hrow7.reads
        have HRC := hid hrowc
        have HS7 := hid hs7
        clear hs7 hrow7 hrowc
        go_wp2_with (at_builtin; refine wpList_append_row _ rfl (.tmp 151) (.tmp 152) _ rfl 5 i1 _ 1 1 Try.underlying66 hi1 hy0 hy1 hy2 rfl (by omega) (.slice CA t ccap) t (bytesV (I.take t)) rfl HRC.out PA q pcap (bytesV ((I.drop t).take q)) rfl HR7.out (bytesV_one _) (by simp only [maxLen]; omega) (by omega) ?_; intro v8 w8 hv8 hk8 ho8; obtain ⟨A8, q8, rfl, -⟩ := hv8.form; have HV8 := hid hv8; have HK8 := hid hk8; have HO8 := hid ho8; clear hv8 hk8 ho8)
        go_roundw
        case rel =>
          refine ⟨j + 1, a + m, b + m2, t + q, u2, r', s', by omega, by go_num, by go_num, by go_num, by omega, by omega, by omega, by omega, ?_, HO7.out.mono (by omega)⟩
          refine HS7.out.swap (v := .slice CA t ccap) (l := I.take t) (by simp) HK8.out ?_ HO8.out
          have h9 := HV8.out
          rw [HTK.out, List.length_append, HTL.out, HPL.out, bytesV_append]
          exact h9
        case measure => simp [intOf] <;> omega
    · have hjl : j = cs.length := by omega
      have hslI := fun wx => run_cut_hi (P := Try.prog) wx 66 5 i1 1 Try.underlying66 hi1 hy1 A li ac t (t : Int) rfl .i64 (by omega)
      have hslO := fun wx => run_cut_hi (P := Try.prog) wx 66 5 i1 1 Try.underlying66 hi1 hy1 D lo bc b (b : Int) rfl .i64 (by omega)
      have hg : gotN (nF I O a b t u r s) 0 = (O.take b, false) := rfl
      have hk : takenN (nF I O a b t u r s) 0 = I.take t := rfl
      have HG := hid hg
      have HK := hid hk
      have hbt : (O.take b).length = b := by rw [List.length_take, HLO.out]; omega
      have HBT := hid hbt
      have htai : (t : Int) ≤ a := by omega
      have hji : ¬ (j : Int) < cs.length := by omega
      clear hg hk hbt
      go_wp2_with fail
      refine (got_S HS.out HO.out (by omega) 0).mono ?_
      rw [HG.out]
      rintro e w4 ⟨v4, rfl, hs4⟩
      have HS4 := hid hs4
      clear hs4
      go_wp2_with fail
      refine (nsame_any _ _ (I.take t) (I.take t) _ ?_ ?_).mono ?_
      · exact (HS4.out.row (r := (.slice CA t ccap, I.take t)) (by simp)).cellsIn (by simp)
      · have h9 := (HI.out.keeps HS4.out.keepsW (by simp)).cut (lo := 0) (hi := t) (Nat.zero_le _) (by omega)
        simp only [Nat.sub_zero, List.drop_zero] at h9
        rw [bytesV_take]
        exact h9
      rintro e w5 ⟨rfl, hk5⟩
      have hsb : sameB (I.take t) (I.take t) = true := sameB_self _
      have HS5 := hid (HS4.out.next hk5)
      clear HS4 hk5
      go_wp2_with fail
      refine (taken_S HS5.out HO.out (by omega) 0).mono ?_
      rw [HK.out]
      rintro e w6 ⟨v6, rfl, hs6⟩
      have HS6 := hid hs6
      clear HS5 hs6
      go_wp2_with fail
      refine (nsame_any _ _ (I.take t) (I.take t) _ ?_ ?_).mono ?_
      · exact (HS6.out.row (r := (v6, I.take t)) (by simp)).cellsIn (by simp)
      · exact (HS6.out.row (r := (.slice CA t ccap, I.take t)) (by simp)).cellsIn (by simp)
      rintro e w7 ⟨rfl, hk7⟩
      have HS7 := hid (HS6.out.next hk7)
      clear HS6 hk7
      go_wp2_with fail
      refine (nsame_any _ _ (O.take b) (O.take b) _ ?_ ?_).mono ?_
      · exact (HS7.out.row (r := (v4, O.take b)) (by simp)).cellsIn (by simp)
      · have h9 := (HOU.out.keeps HS7.out.keepsW (by simp)).cut (lo := 0) (hi := b) (Nat.zero_le _) (by omega)
        simp only [Nat.sub_zero, List.drop_zero] at h9
        rw [bytesV_take]
        exact h9
      rintro e w8 ⟨rfl, hk8⟩
      have hsb2 : sameB (O.take b) (O.take b) = true := sameB_self _
      go_wp2_with (go_at_call 33; refine (nknown_any _).mono ?_; rintro e w9 ⟨rfl, hk9⟩)
      go_ret
      exact ⟨rfl, ((HS7.out.keepsW.trans hk8 (by simp)).trans hk9 (by simp)).below (Nat.le_refl _) (by simp)⟩
theorem netFlows_walk (w : World) (iv : Value) (I : List Int) (hi : CellsIn w [] iv (I.map (.int .u8))) (_ : ∀ n ∈ I, (Lit.int .u8 n).wf = true) (ov : Value) (O : List Int) (ho : CellsIn w [] ov (O.map (.int .u8))) (_ : ∀ n ∈ O, (Lit.int .u8 n).wf = true) (cv : Value) (cs : List Int) (hc : CellsIn w [] cv (cs.map (.int .i64))) (_ : ∀ n ∈ cs, (Lit.int .i64 n).wf = true) :
    Calls Try.prog 9 #[iv, ov, cv] w fun e w' => e = .returned (.bool true) ∧ Below w.heap.size w w' := by
  by_cases h : I.length ≤ 4000 ∧ O.length ≤ 4000 ∧ cs.length ≤ 300
  · exact netFlows_in w iv ov cv I O cs hi ho hc h.1 h.2.1 h.2.2
  · exact netFlows_out w iv ov cv I O cs hi ho hc (by omega)
end Go.Proofs.Ytkeffebcmajhmaa
