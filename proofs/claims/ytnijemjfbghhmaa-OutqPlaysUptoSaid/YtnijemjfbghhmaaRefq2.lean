/- The reference's queue: Add by contract. -/
import Derived.Test.YtnijemjfbghhmaaRefq1
namespace Go.Proofs.Ytnijemjfbghhmaa
open Go.RowKit
set_option maxRecDepth 100000 in
set_option maxHeartbeats 2000000 in
theorem radd_any (x : Nat) (F : List Nat) (bs es : List Int) (g t : Int) (pv : Value) (rows : List (Value × List Int)) (w : World) (h : RQ w x F bs es g t)
    (hp : CellsIn w F pv (rows.map (·.1))) (hrs : ∀ r ∈ rows, CellsIn w F r.1 (bytesV r.2)) (hg0 : 0 ≤ g) (hg1 : g ≤ 1099511627776) (hbs : bs.length + (flat rows).length ≤ 1099511627776) (hes : es.length ≤ 1099511627776) :
    Calls Try.prog 19 #[.pointer (some ⟨x, 0, none⟩), pv] w fun e w' => e = .returned (.int .i64 ((es.length : Int) + 1)) ∧
      (∃ F', RQ w' x F' (bs ++ flat rows) (es ++ [g + (bs ++ flat rows).length]) g t ∧ Later F w F') ∧ Keeps F w w' := by
  obtain ⟨i0, hi0, hz0, hz1, hz2⟩ := info_parts byte_info
  obtain ⟨i1, hi1, hy0, hy1, hy2⟩ := info_parts int_info
  have HP := hid hp
  have HR := hid hrs
  obtain ⟨A, c, rfl, hp1, hp2⟩ := hp.shape
  simp only [List.length_map] at HP hp1 ⊢
  have hrl : rows.length ≤ 9223372036854775807 := by omega
  clear hp hrs
  have HQ := hid h
  clear h
  go_enter Try.func19, Try.ntmps19
  go_wp2_with fail
  go_loopw [5] (fun i wr => ∃ (k : Nat) (G : List Nat), k ≤ rows.length ∧ i = .int .i64 k ∧ RQ wr x G (bs ++ flat (rows.take k)) es g t ∧ Later F w G ∧ Keeps F w wr) (fun i _ => rows.length - (intOf i).toNat)
  case atStart => exact ⟨0, F, Nat.zero_le _, rfl, by simpa [flat] using HQ.out, Later.refl _ _, Keeps.refl _ _⟩
  case round =>
    obtain ⟨k, G, hk, rfl, hq, hlat, hkp⟩ := hrel
    by_cases hlt : k < rows.length
    · obtain ⟨pb, po, rfl, -, hpc⟩ := (HP.out.keeps hkp (by intro x hx; exact .inl hx)).at_ (by simpa using (by omega : 0 < rows.length))
      obtain ⟨v, zs, hr0⟩ : ∃ v zs, rows[k]? = some (v, zs) := ⟨rows[k].1, rows[k].2, by simp [hlt]⟩
      have hcell := hpc k v (by simp [hr0])
      have hbz : CellsIn wr F v (bytesV zs) := (HR.out (v, zs) (List.mem_of_getElem? hr0)).keeps hkp (by intro x hx; exact .inl hx)
      have hft := flat_take rows k v zs hr0
      have hfl := flat_le rows (k + 1)
      obtain ⟨cur, hcur⟩ : ∃ cur, bs ++ flat (rows.take k) = cur := ⟨_, rfl⟩
      rw [hcur] at hq
      have HN : Hid (bs ++ flat (rows.take (k + 1)) = cur ++ zs) := by
        refine hid ?_
        rw [hft, ← List.append_assoc, hcur]
      have hB : cur.length + zs.length ≤ 1099511627776 := by
        have h := congrArg List.length HN.out
        simp at h
        omega
      clear hcur hft hfl
      obtain ⟨vb, ve, b1, b2, b3, b4, b5, b6, b7⟩ := hq
      have c0 := b1.cell 0
      simp at c0
      have f0 := b1.frozen 0
      obtain ⟨ZA, zc, rfl, hz1', hz2'⟩ := hbz.shape
      have hRd := hid hbz.reads.2
      have hzl : (bytesV zs).length = zs.length := by simp [bytesV]
      rw [hzl] at hcell hRd
      have B1 := hid b1
      have B2 := hid b2
      have B3 := hid b3
      have B4 := hid b4
      have B6 := hid b6
      have B7 := hid b7
      have ha : x ∉ vb.ownBlock.toList := fun hx => b2.blk_ne b1 (by decide) x (by simpa using hx) rfl
      have HA := hid ha
      have hke : (k : Int) < rows.length := by omega
      clear hzl ha hpc hr0 hbz b1 b2 b3 b4 b6 b7
      go_wp2_with fail
      go_region_law (first
        | (refine step_append_row _ (by rfl) _ _ _ (by rfl) 5 i0 _ 1 1 Try.underlying24 hi0 hz0 hz1 hz2 rfl (by omega) vb cur.length _ (by rfl) (by exact B2.out) ZA zs.length zc _ (by rfl) (by exact hRd.out) (bytesV_one _) (by simp only [maxLen]; omega) (by omega) ?_; intro v1 w1 hv1 hk1a ho1a; have hk1 : Keeps vb.ownBlock.toList wr w1 := (by first | exact hk1a.pre | exact hk1a.pre1 | exact hk1a); have ho1 : ∀ j, v1.ownBlock = some j → vb.ownBlock = some j ∨ wr.heap.size ≤ j := (by exact ho1a); obtain ⟨A1, q1, rfl, -⟩ := hv1.form; have c1 := cell_keep hk1 HA.out c0; have f1 := (B1.out.keeps hk1 HA.out).frozen 0; have HV1 := hid hv1; have HK1 := hid hk1; have HO1 := hid ho1; clear hv1 hk1 ho1 hk1a ho1a))
      all_goals
        go_wp2_with fail
        go_roundw
        case rel =>
          have hv := HV1.out
          rw [show bytesV cur ++ bytesV zs = bytesV (cur ++ zs) by simp [bytesV], show cur.length + zs.length = (cur ++ zs).length by simp] at hv
          have hs := RQ.setB B1.out B2.out B3.out B4.out b5 B6.out B7.out (vb' := .slice A1 (cur ++ zs).length q1) hv HK1.out (by rw [List.length_append]; exact HO1.out)
          rw [List.length_append] at hs
          refine ⟨k + 1, _, by omega, by go_num, ?_, hlat.trans hs.2.2 hkp.size, hkp.trans hs.2.1 hlat⟩
          rw [HN.out]
          exact hs.1
        case measure => simp [intOf] <;> omega
    · have hkl : k = rows.length := by omega
      subst hkl
      rw [List.take_length] at hq
      obtain ⟨cur, hcur⟩ : ∃ cur, bs ++ flat rows = cur := ⟨_, rfl⟩
      have hcl : cur.length = bs.length + (flat rows).length := by rw [← hcur, List.length_append]
      rw [hcur] at hq
      have hB : cur.length ≤ 1099511627776 := by omega
      have HCUR := hid hcur
      clear hcur hcl
      obtain ⟨vb, ve, b1, b2, b3, b4, b5, b6, b7⟩ := hq
      obtain ⟨A1, q1, rfl, -⟩ := b2.form
      obtain ⟨EA, ec, hve, -⟩ := b3.form
      have hw1 : IntKind.i64.wrap (g + cur.length) = g + cur.length := IntWalk.i64_in _ (by omega)
      have c0 := b1.cell 0
      have c1 := b1.cell 1
      have c2 := b1.cell 2
      simp at c0 c1 c2
      have f1 := b1.frozen 1
      have ha : x ∉ ve.ownBlock.toList := fun hx => b3.blk_ne b1 (by decide) x (by simpa using hx) rfl
      have HA := hid ha
      have B1 := hid b1
      have B2 := hid b2
      have B3 := hid b3
      have B4 := hid b4
      have B6 := hid b6
      have B7 := hid b7
      clear b1 b2 b3 b4 b6 b7 ha
      subst hve
      have n1 : ∀ o : Obj, (wr.alloc o).cell? ⟨x, 1, none⟩ = some (.slice EA es.length ec) := fun o => by simpa using (B1.out.alloc o).cell 1
      go_wp2_with fail
      go_region_law (first
        | (refine step_append_row _ (by rfl) _ _ _ (by rfl) 3 i1 _ 1 8 Try.underlying23 hi1 hy0 hy1 hy2 rfl (by omega) (.slice EA es.length ec) es.length _ (by rfl) ((Row.drew B3.out).alloc _) (some ⟨wr.heap.size, 0, none⟩) 1 1 [.int .i64 (g + cur.length)] (by rfl) (reads_blk1 (by exact Blk.new wr _ _)) (by simp [Value.oneCell']) (by simp only [maxLen]; omega) (by omega) ?_; intro v2 w2 hv2 hk2 ho2; obtain ⟨A2, q2, rfl, -⟩ := hv2.form; have hk3 : Keeps (Value.slice EA es.length ec).ownBlock.toList (wr.alloc (.cells #[.int .i64 (g + cur.length)] 3)) w2 := ⟨hk2.os, hk2.tape, hk2.output, hk2.size, hk2.block⟩; have hb2 := (B1.out.alloc (.cells #[.int .i64 (g + cur.length)] 3)).keeps hk3 HA.out; have d1 := hb2.cell 1; simp at d1; have g1 := hb2.frozen 1; have HV2 := hid hv2; have HO2 := hid ho2; have HK3 := hid hk3; clear hv2 ho2 hk2 hk3 hb2))
      all_goals
        go_wp2
        go_ret
        have hv := HV2.out
        rw [show intsV es ++ [.int .i64 (g + cur.length)] = intsV (es ++ [g + (cur.length : Int)]) by simp [intsV], show es.length + 1 = (es ++ [g + (cur.length : Int)]).length by simp] at hv
        have hs := RQ.setE B1.out B2.out B3.out B4.out b5 B6.out B7.out hv (((Keeps.refl _ wr).alloc _).trans HK3.out (by intro g hg; exact .inl hg)) (fun k hk => by
          rcases HO2.out k (by simpa using hk) with h | h
          · exact .inl h
          · simp at h
            exact .inr (by omega))
        rw [List.length_append] at hs
        exact ⟨rfl, ⟨_, by rw [HCUR.out]; exact hs.1, hlat.trans hs.2.2 hkp.size⟩, hkp.trans hs.2.1 hlat⟩
end Go.Proofs.Ytnijemjfbghhmaa
