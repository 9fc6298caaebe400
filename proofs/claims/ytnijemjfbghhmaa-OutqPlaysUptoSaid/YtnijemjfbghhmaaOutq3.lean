/- The queue: Add by contract. -/
import Derived.Test.YtnijemjfbghhmaaOutq2
namespace Go.Proofs.Ytnijemjfbghhmaa
open Go.RowKit
set_option maxRecDepth 100000 in
set_option maxHeartbeats 1000000 in
theorem add_any (a : Nat) (F : List Nat) (bs : List Int) (ps : List (Int × Int)) (last : Int) (pv : Value) (rows : List (Value × List Int)) (w : World) (h : QRep w a F bs ps last)
    (hp : CellsIn w F pv (rows.map (·.1))) (hrs : ∀ r ∈ rows, CellsIn w F r.1 (bytesV r.2)) (hl0 : 0 ≤ last) (hl1 : last ≤ 1099511627776) (hbs : bs.length + (flat rows).length ≤ 1099511627776) (hps : ps.length ≤ 1099511627776) :
    Calls Try.prog 9 #[.pointer (some ⟨a, 0, none⟩), pv] w fun e w' => e = .returned (.int .i64 (last + 1)) ∧
      (∃ F', QRep w' a F' (bs ++ flat rows) (ps ++ [(last + 1, ((flat rows).length : Int))]) (last + 1) ∧ Later F w F') ∧ Keeps F w w' := by
  obtain ⟨i0, hi0, hz0, hz1, hz2⟩ := info_parts byte_info
  obtain ⟨i1, hi1, hy0, hy1, hy2⟩ := info_parts piece_info
  have HP := hid hp
  have HR := hid hrs
  obtain ⟨A, c, rfl, hp1, hp2⟩ := hp.shape
  simp only [List.length_map] at HP hp1 ⊢
  have hrl : rows.length ≤ 9223372036854775807 := by omega
  clear hp hrs
  have HQ := hid h
  obtain ⟨vb, vp, h1, h2, -⟩ := h
  obtain ⟨A0, c0, rfl, -⟩ := h2.form
  have e0 := h1.cell 0
  simp at e0
  clear h1 h2
  go_enter Try.func9, Try.ntmps9
  go_wp2_with fail
  clear e0
  go_loopw [7, 17] (fun _ i wr => ∃ (k : Nat) (G : List Nat), k ≤ rows.length ∧ i = .int .i64 k ∧ QRep wr a G (bs ++ flat (rows.take k)) ps last ∧ Later F w G ∧ Keeps F w wr) (fun _ i _ => rows.length - (intOf i).toNat)
  case atStart => exact ⟨0, F, Nat.zero_le _, rfl, by simpa [flat] using HQ.out, Later.refl _ _, Keeps.refl _ _⟩
  case round =>
    obtain ⟨k, G, hk, rfl, hq, hlat, hkp⟩ := hrel
    by_cases hlt : k < rows.length
    · obtain ⟨pb, po, rfl, -, hpc⟩ := (HP.out.keeps hkp (by intro x hx; exact .inl hx)).at_ (by simpa using (by omega : 0 < rows.length))
      obtain ⟨v, zs, hr0⟩ : ∃ v zs, rows[k]? = some (v, zs) := ⟨rows[k].1, rows[k].2, by simp [hlt]⟩
      have hcell := hpc k v (by simp [hr0])
      have hbz : CellsIn wr F v (bytesV zs) := (HR.out (v, zs) (List.mem_of_getElem? hr0)).keeps hkp (by intro x hx; exact .inl hx)
      have hft := flat_take rows k v zs hr0
      have hfl := flat_le rows (k + 1)
      obtain ⟨cur, hcur⟩ : ∃ cur, bs ++ flat (rows.take k) = cur := ⟨_, rfl⟩
      rw [hcur] at hq
      have HN : Hid (bs ++ flat (rows.take (k + 1)) = cur ++ zs) := by
        refine hid ?_
        rw [hft, ← List.append_assoc, hcur]
      have hB : cur.length + zs.length ≤ 1099511627776 := by
        have h := congrArg List.length HN.out
        simp at h
        omega
      clear hcur hft hfl
      obtain ⟨vb, vp, b1, b2, b3, b4, b5, b6, b7⟩ := hq
      have c0 := b1.cell 0
      simp at c0
      have f0 := b1.frozen 0
      obtain ⟨ZA, zc, rfl, hz1', hz2'⟩ := hbz.shape
      have hRd := hid hbz.reads.2
      have hzl : (bytesV zs).length = zs.length := by simp [bytesV]
      rw [hzl] at hcell hRd
      have B1 := hid b1
      have B2 := hid b2
      have B3 := hid b3
      have B4 := hid b4
      have B6 := hid b6
      have B7 := hid b7
      have ha : a ∉ vb.ownBlock.toList := fun hx => b2.blk_ne b1 (by decide) a (by simpa using hx) rfl
      have HA := hid ha
      clear hzl ha hpc hr0 hbz b1 b2 b3 b4 b6 b7
      go_wp2_with (at_builtin; refine wpList_append_row _ rfl (.tmp 25) (.tmp 26) _ rfl 5 i0 _ 1 1 Try.underlying24 hi0 hz0 hz1 hz2 rfl (by omega) vb cur.length _ rfl B2.out ZA zs.length zc _ rfl hRd.out (bytesV_one _) (by simp only [maxLen]; omega) (by omega) ?_; intro v1 w1 hv1 hk1 ho1; obtain ⟨A1, q1, rfl, -⟩ := hv1.form; have c1 := cell_keep hk1 HA.out c0; have f1 := (B1.out.keeps hk1 HA.out).frozen 0; have HV1 := hid hv1; have HK1 := hid hk1; have HO1 := hid ho1; clear hv1 hk1 ho1)
      go_roundw
      case rel =>
        have hv := HV1.out
        rw [show bytesV cur ++ bytesV zs = bytesV (cur ++ zs) by simp [bytesV], show cur.length + zs.length = (cur ++ zs).length by simp] at hv
        have hs := QRep.setB B1.out B2.out B3.out B4.out b5 B6.out B7.out (vb' := .slice A1 (cur ++ zs).length q1) hv HK1.out (by rw [List.length_append]; exact HO1.out)
        rw [List.length_append] at hs
        refine ⟨k + 1, _, by omega, by go_num, ?_, hlat.trans hs.2.2 hkp.size, hkp.trans hs.2.1 hlat⟩
        rw [HN.out]
        exact hs.1
      case measure => simp [intOf] <;> omega
    · have hkl : k = rows.length := by omega
      subst hkl
      rw [List.take_length] at hq
      obtain ⟨cur, hcur⟩ : ∃ cur, bs ++ flat rows = cur := ⟨_, rfl⟩
      have hcl : cur.length = bs.length + (flat rows).length := by rw [← hcur, List.length_append]
      have hw1 : IntKind.i64.wrap ((cur.length : Int) - bs.length) = (flat rows).length := by
        rw [IntWalk.i64_in _ (by omega)]
        omega
      rw [hcur] at hq
      have HCUR := hid hcur
      have HCL := hid hcl
      clear hcur hcl
      have hq2 := QRep.setL hq (last + 1)
      have hkp2 := hkp.setCell (p := ⟨a, 2, none⟩) (F := F) (.inl (by have := HQ.out; obtain ⟨_, _, _, _, _, _, h5, _⟩ := this; exact h5)) (.int .i64 (last + 1))
      have hsz2 : (wr.setCell ⟨a, 2, none⟩ (.int .i64 (last + 1))).heap.size = wr.heap.size := by simp [World.setCell]
      have c2 : wr.cell? ⟨a, 2, none⟩ = some (.int .i64 last) := by
        obtain ⟨_, _, h, -⟩ := hq
        simpa using h.cell 2
      have f2 : wr.frozen? ⟨a, 2, none⟩ = false := by
        obtain ⟨_, _, h, -⟩ := hq
        exact h.frozen 2
      clear hq
      go_wp2_with fail
      generalize wr.setCell ⟨a, 2, none⟩ (.int .i64 (last + 1)) = W at hq2 hkp2 hsz2 ⊢
      have HSZ := hid hsz2
      clear c2 f2 hkp hsz2
      obtain ⟨vb, vp, b1, b2, b3, b4, b5, b6, b7⟩ := hq2
      obtain ⟨A1, q1, rfl, -⟩ := b2.form
      have c0 := b1.cell 0
      have c1 := b1.cell 1
      have c2 := b1.cell 2
      simp at c0 c1 c2
      have f1 := b1.frozen 1
      have ha : a ∉ vp.ownBlock.toList := fun hx => b3.blk_ne b1 (by decide) a (by simpa using hx) rfl
      have HA := hid ha
      have B1 := hid b1
      have B2 := hid b2
      have B3 := hid b3
      have B4 := hid b4
      have B6 := hid b6
      have B7 := hid b7
      clear b1 b2 b3 b4 b6 b7 ha
      have hws : (0 : Int) ≤ last + 1 := by omega
      have n1 : ∀ o : Obj, (W.alloc o).cell? ⟨a, 1, none⟩ = some vp := fun o => by simpa using (B1.out.alloc o).cell 1
      go_region_law (first
        | (refine step_append_row _ (by rfl) _ _ _ (by rfl) 52 i1 _ 2 16 Try.underlying48 hi1 hy0 hy1 hy2 rfl (by omega) vp ps.length _ (by rfl) ((Row.drew B3.out).alloc _) (some ⟨W.heap.size, 0, none⟩) 1 1 [.int .i64 (last + 1), .int .i64 (flat rows).length] (by rfl) (reads_blk2 (by exact Blk.new W _ _)) (by simp [Value.oneCell']) (by simp only [maxLen]; omega) (by omega) ?_; intro v2 w2 hv2 hk2 ho2; obtain ⟨A2, q2, rfl, -⟩ := hv2.form; have hk3 : Keeps vp.ownBlock.toList (W.alloc (.cells #[.int .i64 (last + 1), .int .i64 (flat rows).length] 52)) w2 := ⟨hk2.os, hk2.tape, hk2.output, hk2.size, hk2.block⟩; have hb2 := (B1.out.alloc (.cells #[.int .i64 (last + 1), .int .i64 (flat rows).length] 52)).keeps hk3 HA.out; have d1 := hb2.cell 1; have d2 := hb2.cell 2; simp at d1 d2; have g1 := hb2.frozen 1; have HV2 := hid hv2; have HO2 := hid ho2; have HK3 := hid hk3; clear hv2 ho2 hk2 hk3 hb2))
      all_goals
        go_wp2
        go_ret
        have hv := HV2.out
        rw [show piecesV ps ++ [.int .i64 (last + 1), .int .i64 (flat rows).length] = piecesV (ps ++ [(last + 1, ((flat rows).length : Int))]) by simp [piecesV], show ps.length + 1 = (ps ++ [(last + 1, ((flat rows).length : Int))]).length by simp] at hv
        have hs := QRep.setP B1.out B2.out B3.out B4.out b5 B6.out B7.out hv (((Keeps.refl _ W).alloc _).trans HK3.out (by intro g hg; exact .inl hg)) (fun k hk => by
          rcases HO2.out k (by simpa using hk) with h | h
          · exact .inl h
          · simp at h
            exact .inr (by omega))
        rw [List.length_append] at hs
        exact ⟨rfl, ⟨_, by rw [HCUR.out]; exact hs.1, hlat.trans hs.2.2 hkp2.size⟩, hkp2.trans hs.2.1 hlat⟩
end Go.Proofs.Ytnijemjfbghhmaa
