/- The walk of OutqFlows. -/
import Derived.Test.YtnijemjfbghhmaaOutq7
namespace Go.Proofs.Ytnijemjfbghhmaa
open Go.RowKit
set_option maxRecDepth 100000 in
set_option maxHeartbeats 4000000 in
theorem outqFlows_walk (w : World) (pv : Value) (rows : List (Value × List Int)) (hp : CellsIn w [] pv (rows.map (·.1))) (hrs : ∀ r ∈ rows, CellsIn w [] r.1 (r.2.map (.int .u8))) (_ : ∀ r ∈ rows, ∀ n ∈ r.2, (Lit.int .u8 n).wf = true) (hsz : ∀ r ∈ rows, r.2.length ≤ 1048576)
    (cv : Value) (cuts : List Int) (hc : CellsIn w [] cv (cuts.map (.int .i64))) (_ : ∀ n ∈ cuts, (Lit.int .i64 n).wf = true) :
    Calls Try.prog 3 #[pv, cv] w fun e w' => e = .returned (.bool true) ∧ Below w.heap.size w w' := by
  obtain ⟨i0, hi0, hz0, hz1, hz2⟩ := info_parts byte_info
  obtain ⟨i1, hi1, hy0, hy1, hy2⟩ := info_parts int_info
  have HP := hid hp
  have HR := hid hrs
  have HC := hid hc
  have HSZ := hid hsz
  obtain ⟨A, c, rfl, hp1, hp2⟩ := hp.shape
  obtain ⟨B, cb, rfl, hb1, hb2⟩ := hc.shape
  simp only [List.length_map] at HP HC hp1 hb1 ⊢
  have hrl : rows.length ≤ 9223372036854775807 := by omega
  have hcl0 : cuts.length ≤ 9223372036854775807 := by omega
  clear hp hrs hc hsz
  go_enter Try.func3, Try.ntmps3
  go_wp2_with fail
  go_loopw [5, 6] (fun n i wr => ∃ (k : Nat), k ≤ rows.length ∧ i = .int .i64 k ∧ n = .int .i64 (k + (flat (rows.take k)).length) ∧ k + (flat (rows.take k)).length ≤ 3000 ∧ Keeps [] w wr) (fun _ i _ => rows.length - (intOf i).toNat)
  case atStart => exact ⟨0, Nat.zero_le _, rfl, rfl, by simp [flat], Keeps.refl _ _⟩
  case round =>
    obtain ⟨k, hk, rfl, rfl, hle, hkp⟩ := hrel
    by_cases hlt : k < rows.length
    · obtain ⟨pb, po, rfl, -, hpc⟩ := (HP.out.keeps hkp (by simp)).at_ (by simpa using (by omega : 0 < rows.length))
      obtain ⟨v, zs, hr0⟩ : ∃ v zs, rows[k]? = some (v, zs) := ⟨rows[k].1, rows[k].2, by simp [hlt]⟩
      have hcell := hpc k v (by simp [hr0])
      have hbz : CellsIn wr [] v (bytesV zs) := (HR.out (v, zs) (List.mem_of_getElem? hr0)).keeps hkp (by simp)
      have hzsz : zs.length ≤ 1048576 := HSZ.out (v, zs) (List.mem_of_getElem? hr0)
      have HFT := hid (flat_take rows k v zs hr0)
      obtain ⟨cur, hcur⟩ : ∃ cur, flat (rows.take k) = cur := ⟨_, rfl⟩
      rw [hcur] at hle HFT
      rw [hcur]
      clear hcur hpc hr0
      obtain ⟨ZA, zc, rfl, hz1', hz2'⟩ := hbz.shape
      have hzl : (bytesV zs).length = zs.length := by simp [bytesV]
      rw [hzl] at hcell hz1'
      have hw0 : IntKind.i64.wrap (((k : Int) + cur.length) + 1) = ((k : Int) + cur.length) + 1 := IntWalk.i64_in _ (by omega)
      clear hzl hbz
      by_cases hz7 : 3000 < k + cur.length + 1 + zs.length
      · go_wp2
        go_ret
        exact ⟨rfl, hkp.below (Nat.le_refl _) (by simp)⟩
      · have hw1 : IntKind.i64.wrap (((k : Int) + cur.length + 1) + zs.length) = ((k + cur.length + 1 + zs.length : Nat) : Int) := by
          rw [IntWalk.i64_in _ (by omega)]
          omega
        go_wp2_with fail
        go_roundw
        case rel =>
          refine ⟨k + 1, by omega, by go_num, ?_, ?_, hkp⟩
          · rw [HFT.out, List.length_append]
            go_num
          · rw [HFT.out, List.length_append]
            omega
        case measure => simp [intOf] <;> omega
    · have hkl : k = rows.length := by omega
      subst hkl
      rw [List.take_length] at hle
      rw [List.take_length]
      by_cases hcut : 300 < cuts.length
      · go_wp2
        go_ret
        exact ⟨rfl, hkp.below (Nat.le_refl _) (by simp)⟩
      obtain ⟨ALL, hALL⟩ : ∃ L, flat rows = L := ⟨_, rfl⟩
      have hfle : ∀ k, (flat (rows.take k)).length ≤ ALL.length := fun k => by rw [← hALL]; exact flat_le rows k
      rw [hALL] at hle
      have HALL := hid hALL
      clear hALL hlt
      have hsz0 := hkp.size
      rw [HALL.out]
      go_wp2_with fail
      refine (newq _).mono ?_
      rintro e w1 ⟨rfl, hq, hk⟩
      obtain ⟨q, hqe⟩ : ∃ q, wr.heap.size = q := ⟨_, rfl⟩
      rw [hqe] at hq
      rw [hqe]
      have hF : ∀ k ∈ [q], w.heap.size ≤ k := by simp; omega
      clear hqe
      generalize hFe : [q] = F at hq hF
      clear hFe
      have hkp1 := hkp.trans hk (by simp)
      have hsz1 := hkp1.size
      clear hkp hk hsz0
      go_wp2_with fail
      go_loopw [8, 9, 10] (fun all ends i wr => ∃ (k : Nat) (G : List Nat) (es : List Int), k ≤ rows.length ∧ i = .int .i64 k ∧ es.length = k ∧ QRep wr q G (flat (rows.take k)) (pcs 0 0 es) k ∧ Sized (pcs 0 0 es) ∧ lastOf 0 es = (flat (rows.take k)).length ∧
        Row wr 5 1 all (flat (rows.take k)).length (bytesV (flat (rows.take k))) ∧ Row wr 3 1 ends k (intsV es) ∧
        (∀ j ∈ G, w.heap.size ≤ j) ∧ (∀ j, all.ownBlock = some j → w.heap.size ≤ j ∧ j ∉ G) ∧ (∀ j, ends.ownBlock = some j → w.heap.size ≤ j ∧ j ∉ G) ∧ Keeps [] w wr) (fun _ _ i _ => rows.length - (intOf i).toNat)
      case atStart => exact ⟨0, F, [], Nat.zero_le _, rfl, rfl, by simpa [flat, pcs] using hq, by simp [pcs, Sized], by simp [lastOf, flat], Row.nil _ _ _, Row.nil _ _ _, hF, by simp [Value.ownBlock], by simp [Value.ownBlock], hkp1⟩
      case round =>
        clear hq hkp1 hF hsz1
        obtain ⟨k, G, es, hk, rfl, hes, hq, hsd, hlast, hra, hre, hG, hoa, hoe, hkp⟩ := hrel
        have hfk := hfle k
        have hfk1 := hfle (k + 1)
        by_cases hlt : k < rows.length
        · obtain ⟨pb, po, rfl, -, hpc⟩ := (HP.out.keeps hkp (by simp)).at_ (by simpa using (by omega : 0 < rows.length))
          obtain ⟨v, zs, hr0⟩ : ∃ v zs, rows[k]? = some (v, zs) := ⟨rows[k].1, rows[k].2, by simp [hlt]⟩
          have hcell := hpc k v (by simp [hr0])
          have hbz : CellsIn wr G v (bytesV zs) := ((HR.out (v, zs) (List.mem_of_getElem? hr0)).old hG).keeps hkp (by simp)
          have HFT := hid (flat_take rows k v zs hr0)
          obtain ⟨cur, hcur⟩ : ∃ cur, flat (rows.take k) = cur := ⟨_, rfl⟩
          rw [hcur] at hq hlast hra hfk HFT
          rw [HFT.out, List.length_append] at hfk1
          obtain ⟨ZA, zc, rfl, hz1', hz2'⟩ := hbz.shape
          have hzl : (bytesV zs).length = zs.length := by simp [bytesV]
          rw [hzl] at hcell hbz hz1' hr0
          have HR0 := hid hr0
          clear hcur hpc hr0
          have HBZ := hid hbz
          have HRA := hid hra
          have HRE := hid hre
          have HOA := hid hoa
          have HOE := hid hoe
          have HLAST := hid hlast
          clear hbz hra hre hoa hoe hzl hlast
          go_wp2_with fail
          refine (add_one q G cur (pcs 0 0 es) k ZA zc zs _ hq HBZ.out (by omega) (by omega) (by omega) (by rw [pcs_length]; omega)).mono ?_
          rintro e w2 ⟨rfl, ⟨G2, hq2, hl2⟩, hk2⟩
          have hkp2 : Keeps [] w w2 := hkp.trans hk2 (fun x hx => .inr (hG x hx))
          have HRA2 := hid (HRA.out.keeps hk2 (fun j hj => (HOA.out j hj).2))
          have HRE2 := hid (HRE.out.keeps hk2 (fun j hj => (HOE.out j hj).2))
          obtain ⟨pb2, po2, hpe, -, hpc2⟩ := (HP.out.keeps hkp2 (by simp)).at_ (by simpa using (by omega : 0 < rows.length))
          injection hpe with hpe
          injection hpe with e1 e2 _
          subst e1 e2
          have hcell2 := hpc2 k (.slice ZA zs.length zc) (by simp [HR0.out])
          have HRd := hid (HBZ.out.keeps hk2 (by intro x hx; exact .inl hx)).reads.2
          have hlen2 := hq2.flt
          have hG2 := hl2.from hG hkp.size
          have hoa2 : ∀ j, u8.ownBlock = some j → j ∉ G2 := fun j hj hx => by
            rcases hl2 j hx with h | h
            · exact (HOA.out j hj).2 h
            · have := HRA.out.lt j hj
              omega
          have hoe2 : ∀ j, u9.ownBlock = some j → j ∉ G2 := fun j hj hx => by
            rcases hl2 j hx with h | h
            · exact (HOE.out j hj).2 h
            · have := HRE.out.lt j hj
              omega
          have hdis : ∀ j, u8.ownBlock = some j → u9.ownBlock ≠ some j := HRA2.out.disj HRE2.out (by decide)
          have HQ2 := hid hq2
          have HK2 := hid hk2
          have HL2 := hid hl2
          have HG2 := hid hG2
          have HOA2 := hid hoa2
          have HOE2 := hid hoe2
          have HDIS := hid hdis
          have HLEN2 := hid hlen2
          clear hq hG hq2 hk2 hl2 hpc2 hlen2 hG2 hoa2 hoe2 hdis hcell
          go_wp2_with (at_builtin; first
            | (refine wpList_append_row _ rfl (.tmp 55) (.tmp 59) _ rfl 5 i0 _ 1 1 Try.underlying24 hi0 hz0 hz1 hz2 rfl (by omega) u8 cur.length _ rfl HRA2.out ZA zs.length zc _ rfl HRd.out (bytesV_one _) (by simp only [maxLen]; omega) (by omega) ?_; intro v1 w3 hv1 hk3 ho1; obtain ⟨A1, q1, rfl, -⟩ := hv1.form; have HV1 := hid hv1; have HK3 := hid hk3; have HO1 := hid ho1; have HRE3 := hid (HRE2.out.keeps hk3 (fun j hj hx => HDIS.out j (by simpa using hx) hj)); clear hv1 hk3 ho1)
            | (refine wpList_append_row _ rfl (.tmp 61) (.tmp 64) _ rfl 3 i1 _ 1 8 Try.underlying23 hi1 hy0 hy1 hy2 rfl (by omega) u9 k _ rfl (HRE3.out.alloc _) (some ⟨w3.heap.size, 0, none⟩) 1 1 [.int .i64 ((cur.length + zs.length : Nat) : Int)] rfl (reads_blk1 (Blk.new w3 _ _)) (by simp [Value.oneCell']) (by simp only [maxLen]; omega) (by omega) ?_; intro v3 w4 hv3 hk4 ho3))
          go_roundw
          case rel =>
            have hwa : w2.heap.size ≤ w3.heap.size := HK3.out.size
            have ho1 := HO1.out
            have hob1 : ∀ j, (Value.slice A1 (cur.length + zs.length) q1).ownBlock = some j → w.heap.size ≤ j ∧ j ∉ G2 := by
              intro j hj
              rcases ho1 j hj with h | h
              · exact ⟨(HOA.out j h).1, HOA2.out j h⟩
              · refine ⟨Nat.le_trans hkp2.size h, fun hx => ?_⟩
                have := HLEN2.out j hx
                omega
            have hob3 : ∀ j, v3.ownBlock = some j → w.heap.size ≤ j ∧ j ∉ G2 := by
              intro j hj
              rcases ho3 j hj with h | h
              · exact ⟨(HOE.out j h).1, HOE2.out j h⟩
              · have hs := hkp2.size
                simp at h
                refine ⟨by omega, fun hx => ?_⟩
                have := HLEN2.out j hx
                omega
            have hkk : Keeps [] w w4 := ((hkp2.trans HK3.out (fun x hx => .inr (HOA.out x (by simpa using hx)).1)).alloc _).trans hk4 (fun x hx => .inr (HOE.out x (by simpa using hx)).1)
            have hk34 : Keeps (u8.ownBlock.toList ++ u9.ownBlock.toList) w2 w4 := ((HK3.out.mono (fun g hg => by simp at hg ⊢; exact .inl hg)).alloc _).trans hk4 (fun x hx => .inl (by simp at hx ⊢; exact .inr hx))
            have hq4 := HQ2.out.keeps hk34 (fun j hj hx => by
              simp only [List.mem_append, Option.mem_toList] at hx
              rcases hx with hx | hx
              · exact HOA2.out j hx hj
              · exact HOE2.out j hx hj)
            have hra4 := ((HV1.out.alloc (.cells #[.int .i64 ((cur.length : Int) + zs.length)] 3)).keeps hk4 (fun j hj hx => ((HV1.out.disj HRE3.out (by decide)) j hj) (by simpa using hx)))
            refine ⟨k + 1, G2, es ++ [((cur.length + zs.length : Nat) : Int)], by omega, by go_num, by simp [hes], ?_, ?_, ?_, ?_, ?_, HG2.out, hob1, hob3, hkk⟩
            · rw [HFT.out, pcs_snoc, HLAST.out, hes]
              have e1 : (0 : Int) + (k : Nat) + 1 = k + 1 := by omega
              have e2 : ((cur.length + zs.length : Nat) : Int) - cur.length = zs.length := by omega
              rw [e1, e2]
              exact hq4
            · rw [pcs_snoc, HLAST.out]
              intro p hp
              rcases List.mem_append.1 hp with hp | hp
              · exact hsd p hp
              · simp at hp
                subst hp
                simp only
                omega
            · rw [lastOf_snoc, HFT.out, List.length_append]
            · rw [HFT.out, List.length_append]
              simpa [bytesV] using hra4
            · simpa [intsV] using hv3
          case measure => simp [intOf] <;> omega
        · have hkl : k = rows.length := by omega
          subst hkl
          rw [List.take_length, HALL.out] at hq hra
          clear hlast hlt hfk hfk1
          obtain ⟨AA, ac, rfl, -⟩ := hra.form
          obtain ⟨EA, ec, rfl, -⟩ := hre.form
          have hcaI : CellsIn wr G (.slice AA ALL.length ac) (bytesV ALL) := hra.cellsIn (fun j hj => (hoa j hj).2)
          have hceI : CellsIn wr G (.slice EA rows.length ec) (intsV es) := hre.cellsIn (fun j hj => (hoe j hj).2)
          have hcac : ALL.length ≤ ac := by
            obtain ⟨A', c', hv, h3, -⟩ := hcaI.shape
            injection hv with _ _ h4
            subst h4
            simpa [bytesV] using h3
          clear hra hre hoa hoe
          go_wp2_with fail
          go_loopw [11, 12, 13, 14, 15, 16] (fun at' told i _ _ _ wr => ∃ (k a t : Nat) (G : List Nat), k ≤ cuts.length ∧ i = .int .i64 k ∧ at' = .int .i64 a ∧ told = .int .i64 t ∧ a ≤ ALL.length ∧ t ≤ es.length ∧ QRep wr q G (ALL.drop a) (pcs a t (es.drop t)) rows.length ∧
            Sized (pcs a t (es.drop t)) ∧ (∀ j ∈ G, w.heap.size ≤ j) ∧ CellsIn wr G (.slice AA ALL.length ac) (bytesV ALL) ∧ CellsIn wr G (.slice EA rows.length ec) (intsV es) ∧ Keeps [] w wr) (fun _ _ i _ _ _ _ => cuts.length - (intOf i).toNat)
          case atStart => exact ⟨0, 0, 0, G, Nat.zero_le _, rfl, rfl, rfl, Nat.zero_le _, Nat.zero_le _, hq, hsd, hG, hcaI, hceI, hkp⟩
          case round =>
            clear hq hsd hG hcaI hceI hkp
            obtain ⟨k, a, t, G, hk, rfl, rfl, rfl, ha, ht, hq, hsd, hG, hcaI, hceI, hkp⟩ := hrel
            have HCA := hid hcaI
            have HCE := hid hceI
            have HG := hid hG
            have HSD := hid hsd
            have hpl : (pcs a t (es.drop t)).length = es.length - t := by rw [pcs_length, List.length_drop]
            have hdl : (ALL.drop a).length = ALL.length - a := List.length_drop
            clear hcaI hceI hG hsd
            by_cases hlt : k < cuts.length
            · obtain ⟨y, hy⟩ : ∃ y, cuts[k]? = some y := ⟨cuts[k], by simp [hlt]⟩
              obtain ⟨cb1, co, rfl, -, hcell⟩ := (HC.out.keeps hkp (by simp)).at_ (by simp; omega)
              have hcy := hcell k (.int .i64 y) (by simp [hy])
              have HY := hid hy
              clear hcell hy
              obtain ⟨K1, hK1, hK1b⟩ := and_mask y 63 (by omega)
              simp only [Int.cast_ofNat_Int] at hK1
              have hkc : (k : Int) < cuts.length := by omega
              obtain ⟨P, hP⟩ : ∃ P, clip (K1 : Int) (ALL.drop a).length = P := ⟨_, rfl⟩
              have hP1 : P ≤ ALL.length - a := by rw [← hP, ← hdl]; exact clip_le _ _
              have hP2 : P = K1 ∨ (P < K1 ∧ P = ALL.length - a) := by
                rw [← hP, hdl]
                unfold clip
                split <;> omega
              have hRl : ((ALL.drop a).take P).length = P := by rw [List.length_take]; omega
              obtain ⟨R, hR⟩ : ∃ R, (ALL.drop a).take P = R := ⟨_, rfl⟩
              rw [hR] at hRl
              have HR' := hid hR
              have HDL := hid hdl
              have HPL := hid hpl
              have HP' := hid hP
              have hsl := fun wx => run_cut (P := Try.prog) wx 24 5 i0 1 Try.underlying24 hi0 hz1 AA ALL.length ac a (a + P) (a : Int) ((a : Int) + P) rfl (by simp) .i64 .i64 (by omega) (by omega)
              simp only [Nat.add_sub_cancel_left] at hsl
              clear hR hpl hdl hP
              go_wp2_with fail
              have hn := next_any q G (ALL.drop a) (pcs a t (es.drop t)) rows.length K1 _ hq (by rw [HDL.out]; omega)
              rw [HP'.out, HR'.out] at hn
              refine hn.mono ?_
              clear hn
              rintro e w3 ⟨v3, rfl, hv3, -, hk3⟩
              rw [hRl] at hv3
              have hq3 := hq.keeps hk3 (by simp)
              have hkp3 := hkp.trans hk3 (by simp)
              obtain ⟨A3, c3, rfl, -⟩ := hv3.form
              have HV3 := hid hv3
              have hRsame : Hid (CellsIn w3 [] (.slice (cutA AA a ac 1) P (ac - a)) (bytesV R)) := by
                refine hid ?_
                have h := ((HCA.out.keeps hk3 (by simp)).mono (G := []) (by simp)).cut (lo := a) (hi := a + P) (by omega) (by omega)
                rw [Nat.add_sub_cancel_left] at h
                rw [← HR'.out]
                simpa [bytesV] using h
              clear hq hv3 hcy
              have i1c : (a : Int) + P ≤ ALL.length := by omega
              go_wp2_with fail
              refine (same_any _ _ R R _ (HV3.out.cellsIn (by simp)) hRsame.out).mono ?_
              rintro e w4 ⟨rfl, hk4⟩
              rw [sameB_self]
              have hq4 := hq3.keeps hk4 (by simp)
              have hkp4 := hkp3.trans hk4 (by simp)
              have hkr : Keeps [] wr w4 := hk3.trans hk4 (by simp)
              have HCA4 := hid (HCA.out.keeps hkr (by simp))
              have HCE4 := hid (HCE.out.keeps hkr (by simp))
              have hcy : w4.cell? ⟨cb1, co + k, none⟩ = some (.int .i64 y) := by
                obtain ⟨b2, o2, hb2', -, h⟩ := (HC.out.keeps hkp4 (by simp)).at_ (by simp; omega)
                injection hb2' with hb2'
                injection hb2' with e1 e2 _
                subst e1 e2
                exact h k _ (by simp [HY.out])
              clear hq3 hkp3 hk4 hk3 hkr hkp hRsame
              clear HV3
              rcases (by by_cases h : P < K1 <;> simp [h] <;> omega : (P < K1 ∧ ((a : Int) + P != ALL.length) = false) ∨ (¬ P < K1 ∧ True)) with ⟨hPK, hae⟩ | ⟨hPK, -⟩
              all_goals
                go_wp2_with fail
                have hd := done_any q G (ALL.drop a) (pcs a t (es.drop t)) rows.length P _ hq4 (by rw [HDL.out]; omega) (by rw [HPL.out]; omega) HSD.out
                rw [clip_nat P _ (by rw [HDL.out]; omega)] at hd
                have hss := sized_settle (pcs a t (es.drop t)) P HSD.out (by omega)
                obtain ⟨T, hT1, hT2, hT3, hT4⟩ := settle_pcs (es.drop t) a t P
                rw [hT2] at hd hss
                simp only [List.drop_drop] at hd hss
                refine hd.mono ?_
                clear hd hT2
                rintro e w5 ⟨⟨v5, rfl, hv5, -⟩, ⟨G5, hq5, hl5, -⟩, hk5⟩
                simp only [List.length_map, List.length_range] at hv5
                obtain ⟨A5, c5, rfl, -⟩ := hv5.form
                have hkp5 := hkp4.trans hk5 (fun x hx => .inr (HG.out x hx))
                have HCA5 := hid (HCA4.out.later hk5 hl5)
                have HCE5 := hid (HCE4.out.later hk5 hl5)
                have HG5 := hid (hl5.from HG.out hkp4.size)
                have hTl : t + T ≤ es.length := by
                  rw [List.length_drop] at hT1
                  omega
                have HT3 := hid hT3
                have HT4 := hid hT4
                have HV5 := hid (hv5.cellsIn (F := []) (by simp))
                have HQ5 := hid hq5
                have HSS := hid hss
                have hP3 : a + P ≤ ALL.length := by omega
                clear hq4 hk5 hl5 hv5 hT1 hT3 hT4 hq5 hss HCA4 HCE4 HCA HCE HG HSD hsl hcy
                go_wp2_with fail
                go_loopw [12, 16] (fun told kk wx => ∃ m : Nat, m ≤ T ∧ kk = .int .i64 m ∧ told = .int .i64 ((t : Int) + m) ∧ Keeps [] w5 wx) (fun _ kk _ => T - (intOf kk).toNat)
                case atStart => exact ⟨0, Nat.zero_le _, rfl, by simp, Keeps.refl _ _⟩
                case round =>
                  obtain ⟨m, hm, rfl, rfl, hkx⟩ := hrel
                  by_cases hml : m < T
                  · obtain ⟨x, hx⟩ : ∃ x, es[t + m]? = some x := ⟨es[t + m], List.getElem?_eq_getElem (by omega)⟩
                    have hxa : x ≤ (a : Int) + P := HT3.out m x hml (by rw [List.getElem?_drop]; exact hx)
                    obtain ⟨b1, o1, rfl, -, hc1⟩ := (HV5.out.keeps hkx (by simp)).at_ (by simp [intsV]; omega)
                    obtain ⟨b2, o2, rfl, -, hc2⟩ := (HCE5.out.keeps hkx (by simp)).at_ (by simp [intsV]; omega)
                    have d1 := hc1 m (.int .i64 ((t : Int) + 1 + m)) (by simp [intsV, hml])
                    have d2 := hc2 (t + m) (.int .i64 x) (by simp [intsV, hx])
                    have hHX := hid hx
                    clear hc1 hc2 hx
                    have n1 : ((t : Int) + 1 + m != t + m + 1) = false := by simp; omega
                    have n2 : (t : Int) + m + 1 - 1 = ((t + m : Nat) : Int) := by omega
                    have n3 : ((t + m : Nat) : Int) < rows.length := by omega
                    go_wp2_with fail
                    go_roundw
                    case rel => exact ⟨m + 1, by omega, by go_num, by go_num, hkx⟩
                    case measure => simp [intOf] <;> omega
                  · have hmT : m = T := by omega
                    subst hmT
                    have hkk := hkp5.trans hkx (by simp)
                    have hq' := HQ5.out.keeps hkx (by simp)
                    have HQ' := hid hq'
                    have HCA' := hid (HCA5.out.keeps hkx (by simp))
                    have HCE' := hid (HCE5.out.keeps hkx (by simp))
                    clear hq' hml
                    have hrel2 : Hid (∃ (k' a' t' : Nat) (G' : List Nat), k' ≤ cuts.length ∧ (Value.int .i64 ((k : Int) + 1)) = .int .i64 k' ∧ (Value.int .i64 ((a : Int) + P)) = .int .i64 a' ∧ (Value.int .i64 ((t : Int) + m)) = .int .i64 t' ∧ a' ≤ ALL.length ∧ t' ≤ es.length ∧ QRep wr q G' (ALL.drop a') (pcs a' t' (es.drop t')) rows.length ∧
                        Sized (pcs a' t' (es.drop t')) ∧ (∀ j ∈ G', w.heap.size ≤ j) ∧ CellsIn wr G' (.slice AA ALL.length ac) (bytesV ALL) ∧ CellsIn wr G' (.slice EA rows.length ec) (intsV es) ∧ Keeps [] w wr) :=
                      ⟨k + 1, a + P, t + m, G5, by omega, by go_num, by go_num, by go_num, hP3, hTl, by simpa using HQ'.out, by simpa using HSS.out, HG5.out, HCA'.out, HCE'.out, hkk⟩
                    by_cases hTe : t + m < rows.length
                    · obtain ⟨x, hx⟩ : ∃ x, es[t + m]? = some x := ⟨es[t + m], List.getElem?_eq_getElem (by omega)⟩
                      have hxa : (a : Int) + P < x := HT4.out x (by rw [List.getElem?_drop]; exact hx)
                      obtain ⟨b2, o2, rfl, -, hc2⟩ := HCE'.out.at_ (by simp [intsV]; omega)
                      have d2 := hc2 (t + m) (.int .i64 x) (by simp [intsV, hx])
                      have hHX := hid hx
                      clear hc2 hx
                      have n3 : (t : Int) + m < rows.length := by omega
                      have n4 : ((t : Int) + m).toNat = t + m := by omega
                      go_wp2_with fail
                      go_roundw
                      case rel => exact hrel2.out
                      case measure => simp [intOf] <;> omega
                    · have n3 : ¬ (t : Int) + m < rows.length := by omega
                      go_wp2_with fail
                      go_roundw
                      case rel => exact hrel2.out
                      case measure => simp [intOf] <;> omega
            · have hkl : k = cuts.length := by omega
              subst hkl
              have hw1 : IntKind.i64.wrap ((ALL.length : Int) - a) = ((ALL.drop a).length : Nat) := by
                rw [hdl, IntWalk.i64_in _ (by omega)]
                omega
              have hw2 : IntKind.i64.wrap ((rows.length : Int) - t) = ((((pcs a t (es.drop t)).map (·.1)).length : Nat) : Int) := by
                rw [List.length_map, hpl, IntWalk.i64_in _ (by omega)]
                omega
              have HDL := hid hdl
              have HPL := hid hpl
              clear hdl hpl
              go_wp2_with fail
              refine (qlen_any q G (ALL.drop a) (pcs a t (es.drop t)) rows.length _ hq).mono ?_
              rintro e w2' ⟨rfl, rfl⟩
              go_wp2_with fail
              refine (left_any q G (ALL.drop a) (pcs a t (es.drop t)) rows.length _ hq (by rw [HPL.out]; omega)).mono ?_
              rintro e w5 ⟨⟨v5, rfl, hv5, -⟩, hk5⟩
              obtain ⟨A5, c5, rfl, -⟩ := hv5.form
              go_wp2_with (go_at_call 15; refine (known_any _).mono ?_; rintro e w11 ⟨rfl, hk11⟩)
              go_ret
              exact ⟨rfl, ((hkp.trans hk5 (by simp)).trans hk11 (by simp)).below (Nat.le_refl _) (by simp)⟩
end Go.Proofs.Ytnijemjfbghhmaa
