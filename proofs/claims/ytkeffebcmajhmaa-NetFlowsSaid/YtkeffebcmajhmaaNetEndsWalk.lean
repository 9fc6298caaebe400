/- The walk of NetEnds. -/
import Derived.Test.YtkeffebcmajhmaaNet19
namespace Go.Proofs.Ytkeffebcmajhmaa
open Go.RowKit
set_option linter.unusedVariables false
def cE (brk hlv : Bool) (inn : List Int) (u r s : Int) (g t : List Int) : Cn := ⟨false, true, brk, 0, hlv, false, true, inn, u, r, s, g, t⟩
def nE (c : Cn) : NS := ⟨1, [c], [], false, 0, 1, 1⟩
theorem ne_on {α : Type} (c : Cn) (f : Cn → Cn × α) (x : α) : onConn (nE c) 0 f x = (nE (f c).1, (f c).2) := rfl
theorem ee1 : acceptN (connectN (newN 1) 0).1 = (nE (cE false false [] 0 0 0 [] []), 0, 0, 0) := rfl
theorem ee0 : connectN (newN 1) 0 = (⟨1, [newCn 0], [0], false, 0, 1, 0⟩, 0, 0) := rfl
theorem ee1' : acceptN ⟨1, [newCn 0], [0], false, 0, 1, 0⟩ = (nE (cE false false [] 0 0 0 [] []), 0, 0, 0) := rfl
theorem sendD_t (rows : List (List Int)) (d : Cn) (h : theirsD d = 0) (h2 : d.halved = false) : sendD rows d = ({ d with inn := (d.inn ++ rows.flatten).take 1024, reads := if 0 < ((d.inn ++ rows.flatten).take 1024).length - d.inn.length then d.reads + 1 else d.reads }, ((((d.inn ++ rows.flatten).take 1024).length - d.inn.length : Nat) : Int), 0) := by
  unfold sendD
  rw [if_pos h, if_neg (by rw [h2]; simp)]
theorem readD_t (most : Nat) (d : Cn) (h : oursD d = 0) (h2 : ¬ (d.inn = [] ∧ d.halved = false)) : readD most d = ({ d with inn := d.inn.drop most, told := d.told ++ d.inn.take most }, d.inn.take most, 0) := by
  unfold readD
  rw [if_pos h, if_neg h2]
theorem writeD_t (b : List Int) (d : Cn) (h : oursD d = 0) (h2 : d.shut = false) (h3 : b ≠ []) (h4 : d.window ≠ 0) : writeD b d = ({ d with got := d.got ++ b.take (min b.length d.window.toNat), window := d.window - (min b.length d.window.toNat : Nat) }, ((min b.length d.window.toNat : Nat) : Int), 0) := by
  unfold writeD
  rw [if_pos h, if_neg (by rw [h2]; simp), if_neg h3, if_neg h4]
theorem ee2 (zs : List Int) (h0 : 0 < zs.length) (h : zs.length ≤ 1024) : sendN (nE (cE false false [] 0 0 0 [] [])) 0 [zs] = (nE (cE false false zs 0 1 0 [] []), (zs.length : Int), 0) := by
  unfold sendN
  rw [ne_on, sendD_t _ _ rfl rfl]
  have ht : ((cE false false [] 0 0 0 [] []).inn ++ [zs].flatten).take 1024 = zs := by simp [cE, List.take_of_length_le h]
  rw [ht]
  simp [cE, h0]
theorem ee3 (zs : List Int) : openN (nE (cE false false zs 0 1 0 [] [])) 0 9 = (nE (cE false false zs 9 1 1 [] []), 0) := by
  unfold openN
  rw [if_neg (by omega), ne_on]
  rfl
theorem ee4 (zs : List Int) (h0 : 0 < zs.length) : readN (nE (cE false false zs 9 1 1 [] [])) 0 5 = (nE (cE false false (zs.drop 5) 9 1 1 [] (zs.take 5)), zs.take 5, 0) := by
  unfold readN
  rw [if_neg (by omega), ne_on, readD_t _ _ rfl (by rintro ⟨h, -⟩; simp only [cE] at h; rw [h] at h0; simp at h0)]
  rfl
theorem ee5 (inn t : List Int) : halfN (nE (cE false false inn 9 1 1 [] t)) 0 = (nE (cE false true inn 9 2 1 [] t), 0) := rfl
theorem ee6 (inn t : List Int) (rows : List (List Int)) : sendN (nE (cE false true inn 9 2 1 [] t)) 0 rows = (nE (cE false true inn 9 2 1 [] t), 0, 6) := rfl
theorem ee7 (inn t : List Int) (h : inn.length ≤ 1024) : readN (nE (cE false true inn 9 2 1 [] t)) 0 1024 = (nE (cE false true [] 9 2 1 [] (t ++ inn)), inn, 0) := by
  unfold readN
  rw [if_neg (by omega), ne_on, readD_t _ _ rfl (by rintro ⟨-, h⟩; simp [cE] at h)]
  have h1 : inn.take (1024 : Int).toNat = inn := List.take_of_length_le h
  have h2 : inn.drop (1024 : Int).toNat = [] := List.drop_eq_nil_of_le h
  simp only [cE]
  rw [h1, h2]
theorem ee8 (t : List Int) : readN (nE (cE false true [] 9 2 1 [] t)) 0 5 = (nE (cE false true [] 9 2 1 [] t), [], 0) := by
  unfold readN
  rw [if_neg (by omega), ne_on, readD_t _ _ rfl (by rintro ⟨-, h⟩; simp [cE] at h)]
  simp [cE]
theorem ee9 (t zs : List Int) (h0 : 0 < zs.length) : ∃ N', writeN (nE (cE false true [] 9 2 1 [] t)) 0 zs = (N', ((min zs.length 9 : Nat) : Int), 0) := by
  unfold writeN
  rw [ne_on, writeD_t _ _ rfl rfl (by rintro rfl; simp at h0) (by simp [cE])]
  exact ⟨_, rfl⟩
theorem er1 (zs : List Int) : resetN (nE (cE false false zs 9 1 1 [] [])) 0 = (nE (cE true false [] 0 2 2 [] []), 0) := rfl
theorem er2 : readN (nE (cE true false [] 0 2 2 [] [])) 0 5 = (nE (cE true false [] 0 2 2 [] []), [], 5) := rfl
theorem er3 (zs : List Int) : writeN (nE (cE true false [] 0 2 2 [] [])) 0 zs = (nE (cE true false [] 0 2 2 [] []), 0, 5) := rfl
theorem er4 (rows : List (List Int)) : sendN (nE (cE true false [] 0 2 2 [] [])) 0 rows = (nE (cE true false [] 0 2 2 [] []), 0, 5) := rfl
theorem er5 : gotN (nE (cE true false [] 0 2 2 [] [])) 0 = ([], true) := rfl
theorem er6 : readyN (nE (cE true false [] 0 2 2 [] [])) 0 = (true, true) := rfl
theorem er7 : ∃ N', closeN (nE (cE true false [] 0 2 2 [] [])) [0] = (N', 1) := ⟨_, rfl⟩
/-- one row, in a block of its own. -/
theorem rows_one {w0 w : World} {F : List Nat} {v : Value} {zs : List Int} (hz : CellsIn w0 [] v (bytesV zs)) (hk : Keeps [] w0 w) (hF : ∀ k ∈ F, w0.heap.size ≤ k ∧ k < w.heap.size) :
    RowsIn (w.alloc (.cells #[v] 66)) F (.slice (some ⟨w.heap.size, 0, none⟩) 1 1) [(v, zs)] := by
  refine ⟨?_, fun r hr => ?_⟩
  · have h := CellsIn.newM w F [v] 66 (0, 0) (fun k hk => (hF k hk).2) (by simp)
    simpa using h
  · simp at hr
    subst hr
    exact ((hz.old (fun k hk => (hF k hk).1)).keeps hk (by simp)).alloc _
set_option maxRecDepth 100000 in
set_option maxHeartbeats 1000000 in
theorem netEnds_out (w : World) (pv : Value) (zs : List Int) (hz : CellsIn w [] pv (bytesV zs)) (half : Bool) (h : 1024 < zs.length ∨ zs.length = 0) :
    Calls Try.prog 10 #[pv, .bool half] w fun e w' => e = .returned (.bool true) ∧ Below w.heap.size w w' := by
  obtain ⟨A, c, rfl, h1, h2⟩ := hz.shape
  simp only [bytesV_length] at h1 ⊢
  clear hz
  obtain ⟨l, hl⟩ : ∃ l, zs.length = l := ⟨_, rfl⟩
  rw [hl] at h h1 ⊢
  clear hl
  rcases h with h | rfl
  · have h4 : (1024 : Int) < l := by omega
    go_enter Try.func10, Try.ntmps10
    go_wp2_with (go_at_call 33; refine (nknown_any _).mono ?_; rintro e w5 ⟨rfl, hk5⟩)
    go_ret
    exact ⟨rfl, hk5.below (Nat.le_refl _) (by simp)⟩
  · go_enter Try.func10, Try.ntmps10
    go_wp2_with (go_at_call 33; refine (nknown_any _).mono ?_; rintro e w5 ⟨rfl, hk5⟩)
    go_ret
    exact ⟨rfl, hk5.below (Nat.le_refl _) (by simp)⟩
set_option maxRecDepth 100000 in
set_option maxHeartbeats 4000000 in
theorem netEnds_in (w : World) (pv : Value) (zs : List Int) (hz : CellsIn w [] pv (bytesV zs)) (half : Bool) (h0 : 0 < zs.length) (h1 : zs.length ≤ 1024) :
    Calls Try.prog 10 #[pv, .bool half] w fun e w' => e = .returned (.bool true) ∧ Below w.heap.size w w' := by
  obtain ⟨i1, hi1, hy0, hy1, hy2⟩ := info_parts u8_info
  have HZ := hid hz
  obtain ⟨A, c, rfl, hc1, hc2⟩ := hz.shape
  simp only [bytesV_length] at hc1 HZ ⊢
  clear hz
  obtain ⟨l, hl⟩ : ∃ l, zs.length = l := ⟨_, rfl⟩
  have E2 := hid (ee2 zs h0 h1)
  have E4 := hid (ee4 zs h0)
  have E7 := hid (ee7 (zs.drop 5) (zs.take 5) (by simp; omega))
  have E9 := hid (ee9 (zs.take 5 ++ zs.drop 5) zs h0)
  rw [hl] at h0 h1 hc1 HZ E2 E9 ⊢
  have HL := hid hl
  clear hl
  have b1 : ¬ (1024 : Int) < l := by omega
  have b2 : ¬ (l : Int) < 1 := by omega
  have O0 := okN_new 1 (by omega) (by omega)
  have O1 := okN_connect O0 0 (by omega)
  rw [ee0] at O1
  have O2 := okN_accept O1
  rw [ee1'] at O2
  have O3 := okN_send O2 0 [zs]
  rw [E2.out] at O3
  have O4 := okN_open O3 0 9
  rw [ee3] at O4
  simp only [Int.zero_add, Int.reduceAdd] at O1 O2 O3 O4
  have HO0 := hid O0
  have HO1 := hid O1
  have HO2 := hid O2
  have HO3 := hid O3
  have HO4 := hid O4
  clear O0 O1 O2 O3 O4
  go_enter Try.func10, Try.ntmps10
  go_wp2_with fail
  refine (nnew_S 1 w _ (Keeps.refl [] w) (by omega) (by omega)).mono ?_
  rintro e w1 ⟨n, rfl, hs1⟩
  have HS1 := hid hs1
  clear hs1
  go_wp2_with fail
  refine (connect_S HS1.out HO0.out (by omega) 0).mono ?_
  rw [ee0]
  rintro e w2 ⟨rfl, hs2⟩
  have HS2 := hid hs2
  clear HS1 hs2
  go_wp2_with fail
  refine (accept_S HS2.out HO1.out (by omega)).mono ?_
  rw [ee1']
  rintro e w3 ⟨rfl, hs3⟩
  have HS3 := hid hs3
  clear HS2 hs3
  go_wp2_with fail
  refine (send_S HS3.out ((Keeps.refl [] w3).alloc _) HO2.out (by omega) 0 _ [(.slice A l c, zs)] (fun F hF => rows_one HZ.out HS3.out.keepsW hF)).mono ?_
  simp only [List.map_cons, List.map_nil]
  rw [E2.out]
  rintro e w4 ⟨rfl, hs4⟩
  have HS4 := hid hs4
  clear HS3 hs4
  go_wp2_with fail
  refine (open_S HS4.out HO3.out (by omega) 0 9).mono ?_
  rw [ee3]
  rintro e w5 ⟨rfl, hs5⟩
  have HS5 := hid hs5
  clear HS4 hs5
  cases half with
  | true =>
    have O5 := okN_read HO4.out 0 5
    rw [E4.out] at O5
    have O6 := okN_half O5 0
    rw [ee5] at O6
    have O8 := okN_read O6 0 1024
    rw [E7.out] at O8
    have O9 := okN_read O8 0 5
    rw [ee8] at O9
    have HO5 := hid O5
    have HO6 := hid O6
    have HO8 := hid O8
    have HO9 := hid O9
    clear O5 O6 O8 O9
    obtain ⟨m5, hm5⟩ : ∃ m, min 5 l = m := ⟨_, rfl⟩
    obtain ⟨m9, hm9⟩ : ∃ m, min l 9 = m := ⟨_, rfl⟩
    rw [hm9] at E9
    have hml : m5 ≤ l := by omega
    have hmin5 : ∀ (ts : Array TypeId) (t : TypeId) (wx : World), (Builtin.min_ ts t #[.int .i64 5, .int .i64 (l : Int)]).run Try.prog wx = .ok (.int .i64 (m5 : Int)) wx := by
      intro ts t wx
      rw [run_min_int2]
      split
      · rw [show m5 = l by omega]
      · rw [show m5 = 5 by omega]
        rfl
    have hmin9 : ∀ (ts : Array TypeId) (t : TypeId) (wx : World), (Builtin.min_ ts t #[.int .i64 9, .int .i64 (l : Int)]).run Try.prog wx = .ok (.int .i64 (m9 : Int)) wx := by
      intro ts t wx
      rw [run_min_int2]
      split
      · rw [show m9 = l by omega]
      · rw [show m9 = 9 by omega]
        rfl
    have hsl := fun wx => run_cut_lo (P := Try.prog) wx 66 5 i1 1 Try.underlying66 hi1 hy1 A l c m5 (m5 : Int) rfl .i64 hml
    have HDR : Hid (zs.drop m5 = zs.drop 5) := by
      refine hid ?_
      rcases (by omega : m5 = 5 ∨ (m5 = l ∧ l ≤ 5)) with h | ⟨h, h2⟩
      · rw [h]
      · have := HL.out
        rw [h, List.drop_eq_nil_of_le (by omega), List.drop_eq_nil_of_le (by omega)]
    obtain ⟨N9, hN9⟩ := E9.out
    have HN9 := hid hN9
    clear hm5 hm9 hN9
    go_wp2_with fail
    refine (read_S HS5.out HO4.out (by omega) 0 5 (by omega)).mono ?_
    rw [E4.out]
    rintro e w6 ⟨v6, rfl, hs6⟩
    have HS6 := hid (hs6.less (A' := []) (by simp))
    clear hs6
    go_wp2_with fail
    refine (half_S HS6.out HO5.out (by omega) 0).mono ?_
    rw [ee5]
    rintro e w7 ⟨rfl, hs7⟩
    have HS7 := hid hs7
    clear HS6 hs7
    go_wp2_with fail
    refine (send_S HS7.out ((Keeps.refl [] w7).alloc _) HO6.out (by omega) 0 _ [(.slice A l c, zs)] (fun F hF => rows_one HZ.out HS7.out.keepsW hF)).mono ?_
    simp only [List.map_cons, List.map_nil]
    rw [ee6]
    rintro e w8 ⟨rfl, hs8⟩
    have HS8 := hid hs8
    clear HS7 hs8
    go_wp2_with fail
    refine (read_S HS8.out HO6.out (by omega) 0 1024 (by omega)).mono ?_
    rw [E7.out]
    rintro e w9 ⟨v9, rfl, hs9⟩
    have HS9 := hid hs9
    clear HS8 hs9
    go_wp2_with fail
    refine (read_S HS9.out HO8.out (by omega) 0 5 (by omega)).mono ?_
    rw [ee8]
    rintro e w10 ⟨v10, rfl, hs10⟩
    have hrow10 := hs10.row (r := (v10, [])) (by simp)
    obtain ⟨A10, c10, hv10, -⟩ := hrow10.form
    simp only [List.length_nil] at hv10
    subst hv10
    have HS10 := hid hs10
    clear HS9 hs10 hrow10
    go_wp2_with fail
    refine (write_S HS10.out HO9.out (by omega) 0 _ zs HZ.out).mono ?_
    rw [HN9.out]
    rintro e w11 ⟨rfl, hs11⟩
    have HS11 := hid hs11
    clear HS10 hs11
    have hsb : sameB (zs.drop 5) (zs.drop 5) = true := sameB_self _
    go_wp2_with (first
      | (go_at_call 44; refine (nsame_any _ _ (zs.drop 5) (zs.drop 5) _ ?ha ?hb).mono ?_; rotate_left 2; (rintro e w12 ⟨rfl, hk12⟩))
      | (go_at_call 33; refine (nknown_any _).mono ?_; rintro e w13 ⟨rfl, hk13⟩))
    case ha => exact ((HS11.out.row (r := (v9, zs.drop 5)) (by simp)).cellsIn (by simp))
    case hb =>
      have h3 := ((HZ.out.keeps HS11.out.keepsW (by simp)).cut (lo := m5) (hi := l) hml (Nat.le_refl _))
      have h4 : ((bytesV zs).drop m5).take (l - m5) = bytesV (zs.drop 5) := by
        rw [← HDR.out, bytesV_drop, List.take_of_length_le]
        rw [List.length_drop, bytesV_length, HL.out]
        exact Nat.le_refl _
      rw [h4] at h3
      exact h3
    go_ret
    exact ⟨rfl, ((HS11.out.keepsW.trans hk12 (by simp)).trans hk13 (by simp)).below (Nat.le_refl _) (by simp)⟩
  | false =>
    have O5 := okN_reset HO4.out 0
    rw [er1] at O5
    have HO5 := hid O5
    clear O5
    go_wp2_with fail
    refine (reset_S HS5.out HO4.out (by omega) 0).mono ?_
    rw [er1]
    rintro e w6 ⟨rfl, hs6⟩
    have HS6 := hid hs6
    clear HS5 hs6
    go_wp2_with fail
    refine (read_S HS6.out HO5.out (by omega) 0 5 (by omega)).mono ?_
    rw [er2]
    rintro e w7 ⟨v7, rfl, hs7⟩
    have HS7 := hid (hs7.less (A' := []) (by simp))
    clear HS6 hs7
    go_wp2_with fail
    refine (write_S HS7.out HO5.out (by omega) 0 _ zs HZ.out).mono ?_
    rw [er3]
    rintro e w8 ⟨rfl, hs8⟩
    have HS8 := hid hs8
    clear HS7 hs8
    go_wp2_with fail
    refine (send_S HS8.out ((Keeps.refl [] w8).alloc _) HO5.out (by omega) 0 _ [(.slice A l c, zs)] (fun F hF => rows_one HZ.out HS8.out.keepsW hF)).mono ?_
    simp only [List.map_cons, List.map_nil]
    rw [er4]
    rintro e w9 ⟨rfl, hs9⟩
    have HS9 := hid hs9
    clear HS8 hs9
    go_wp2_with fail
    refine (got_S HS9.out HO5.out (by omega) 0).mono ?_
    rw [er5]
    rintro e w10 ⟨v10, rfl, hs10⟩
    have HS10 := hid (hs10.less (A' := []) (by simp))
    clear HS9 hs10
    go_wp2_with fail
    refine (ready_S HS10.out 0).mono ?_
    rw [er6]
    rintro e w11 ⟨rfl, hs11⟩
    have HS11 := hid hs11
    clear HS10 hs11
    obtain ⟨N12, hN12⟩ := er7
    have HN12 := hid hN12
    clear hN12
    go_wp2_with fail
    refine (close_S HS11.out ((Keeps.refl [] w11).alloc _) HO5.out _ [0] (fun F hF => ?_) (by simp)).mono ?_
    · have h := CellsIn.newM w11 F [.int .i64 0] 3 (0, 0) (fun k hk => (hF k hk).2) (by simp)
      simpa using h
    rw [HN12.out]
    rintro e w12 ⟨rfl, hs12⟩
    have HS12 := hid hs12
    clear hs12
    go_wp2_with (go_at_call 33; refine (nknown_any _).mono ?_; rintro e w13 ⟨rfl, hk13⟩)
    go_ret
    exact ⟨rfl, (HS12.out.keepsW.trans hk13 (by simp)).below (Nat.le_refl _) (by simp)⟩
theorem netEnds_walk (w : World) (pv : Value) (zs : List Int) (hz : CellsIn w [] pv (zs.map (.int .u8))) (_ : ∀ n ∈ zs, (Lit.int .u8 n).wf = true) (half : Bool) :
    Calls Try.prog 10 #[pv, .bool half] w fun e w' => e = .returned (.bool true) ∧ Below w.heap.size w w' := by
  by_cases h : 0 < zs.length ∧ zs.length ≤ 1024
  · exact netEnds_in w pv zs hz half h.1 h.2
  · exact netEnds_out w pv zs hz half (by omega)
end Go.Proofs.Ytkeffebcmajhmaa
