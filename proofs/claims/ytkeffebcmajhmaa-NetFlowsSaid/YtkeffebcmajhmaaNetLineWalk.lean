/- The walk of NetLine. -/
import Derived.Test.YtkeffebcmajhmaaNet19
import Derived.Laws.BitsAllLaws
import Derived.Laws.BitsLemmas
namespace Go.Proofs.Ytkeffebcmajhmaa
open Go.RowKit
set_option linter.unusedVariables false
theorem nand_mask (x : Int) (m : Nat) (h : m < 9223372036854775808) : ∃ k : Nat, bits .and .i64 x (m : Int) = k ∧ k ≤ m := by
  have e : (BitVec.ofInt 64 (m : Int)).toNat = m := by
    rw [BitVec.ofInt_natCast, BitVec.toNat_ofNat]; exact Nat.mod_eq_of_lt (by omega)
  refine ⟨(BitVec.ofInt 64 x).toNat &&& m, ?_, Nat.and_le_right⟩
  have hx : (BitVec.ofInt 64 x).toNat &&& m ≤ m := Nat.and_le_right
  show IntKind.i64.wrap ((BitVec.ofInt 64 x &&& BitVec.ofInt 64 (m : Int)).toNat : Int) = _
  rw [BitVec.toNat_and, e, IntKind.wrap_i64]
  omega
/-- the byte of a number. -/
def pe (z : Int) : Int := bits .and .i64 z 255
theorem pe_bd (z : Int) : 0 ≤ pe z ∧ pe z ≤ 255 := by
  obtain ⟨q, hq, hl⟩ := nand_mask z 255 (by omega)
  have h1 : pe z = (q : Int) := hq
  omega
set_option maxRecDepth 100000 in
set_option maxHeartbeats 1000000 in
theorem netLine_out (w : World) (b : Int) (pv : Value) (zs : List Int) (hz : CellsIn w [] pv (zs.map (.int .i64))) (h : b < 1 ∨ (1 ≤ b ∧ 64 < b) ∨ (1 ≤ b ∧ b ≤ 64 ∧ 100 < zs.length)) :
    Calls Try.prog 8 #[.int .i64 b, pv] w fun e w' => e = .returned (.bool true) ∧ Below w.heap.size w w' := by
  obtain ⟨A, c, rfl, h1, h2⟩ := hz.shape
  simp only [List.length_map] at h1 ⊢
  clear hz
  rcases h with h | ⟨h0, h⟩ | ⟨h0, h3, h⟩
  · go_enter Try.func8, Try.ntmps8
    go_wp2_with (go_at_call 33; refine (nknown_any _).mono ?_; rintro e w5 ⟨rfl, hk5⟩)
    go_ret
    exact ⟨rfl, hk5.below (Nat.le_refl _) (by simp)⟩
  · go_enter Try.func8, Try.ntmps8
    go_wp2_with (go_at_call 33; refine (nknown_any _).mono ?_; rintro e w5 ⟨rfl, hk5⟩)
    go_ret
    exact ⟨rfl, hk5.below (Nat.le_refl _) (by simp)⟩
  · have h4 : (100 : Int) < zs.length := by omega
    go_enter Try.func8, Try.ntmps8
    go_wp2_with (go_at_call 33; refine (nknown_any _).mono ?_; rintro e w5 ⟨rfl, hk5⟩)
    go_ret
    exact ⟨rfl, hk5.below (Nat.le_refl _) (by simp)⟩
set_option maxRecDepth 100000 in
set_option maxHeartbeats 2000000 in
theorem netLine_in (w : World) (b : Nat) (pv : Value) (zs : List Int) (hz : CellsIn w [] pv (zs.map (.int .i64))) (hb1 : 1 ≤ b) (hb2 : b ≤ 64) (hl : zs.length ≤ 100) :
    Calls Try.prog 8 #[.int .i64 b, pv] w fun e w' => e = .returned (.bool true) ∧ Below w.heap.size w w' := by
  have HZ := hid hz
  obtain ⟨A, c, rfl, h1, h2⟩ := hz.shape
  simp only [List.length_map] at h1 HZ ⊢
  clear hz
  have a1 : ¬ (b : Int) < 1 := by omega
  have a2 : ¬ (64 : Int) < b := by omega
  have a3 : ¬ (100 : Int) < zs.length := by omega
  go_enter Try.func8, Try.ntmps8
  go_wp2_with fail
  refine (nnew_S b w _ (Keeps.refl [] w) (by omega) (by omega)).mono ?_
  rw [← lineN_zero]
  rintro e w1 ⟨n, rfl, hs1⟩
  have HS1 := hid hs1
  have HO1 : Hid (OkN (lineN b 0 [] 0) 0) := hid (okN_new b (by omega) (by omega))
  clear hs1
  go_wp2_with fail
  go_loopw [7, 8] (fun k i wr => ∃ j : Nat, j ≤ zs.length ∧ i = .int .i64 j ∧ k = .int .i64 (min j b : Nat) ∧ NSt w pc [] wr n (lineN b 0 ((zs.take (min j b)).map pe) 0) ∧ OkN (lineN b 0 ((zs.take (min j b)).map pe) 0) (j : Int)) (fun _ i _ => zs.length - (intOf i).toNat)
  case atStart => exact ⟨0, Nat.zero_le _, rfl, by simp, by simpa using HS1.out, by simpa using HO1.out⟩
  case round =>
    clear HS1 HO1
    obtain ⟨j, hj, rfl, rfl, hS, hO⟩ := hrel
    have HS := hid hS
    have HO := hid hO
    clear hS hO
    by_cases hlt : j < zs.length
    · obtain ⟨pb, po, rfl, -, hc⟩ := HZ.out.at_ (by simp; omega)
      obtain ⟨z, hzj⟩ : ∃ z, zs[j]? = some z := ⟨zs[j], List.getElem?_eq_getElem hlt⟩
      have c0 := cell_keep HS.out.keepsW (by simp) (hc j (.int .i64 z) (by simp [hzj]))
      have hji : (j : Int) < zs.length := by omega
      obtain ⟨x, hx⟩ : ∃ x, bits BinOp.and IntKind.i64 z 255 = x := ⟨_, rfl⟩
      have hxb := pe_bd z
      have hpx : pe z = x := hx
      rw [hpx] at hxb
      obtain ⟨hx0, hx1⟩ := hxb
      have HPX := hid hpx
      have HZJ := hid hzj
      clear hc hzj hpx
      by_cases hjb : j < b
      · have hmin : min j b = j := by omega
        rw [hmin] at HS HO ⊢
        have hlp : ((zs.take j).map pe).length = j := by simp; omega
        have HC := hid (lineN_connect b 0 ((zs.take j).map pe) x hx0 hx1 (by rw [hlp]; omega) (by rw [hlp]; omega))
        have HO2 := hid (okN_connect HO.out x (by omega))
        have hnx : (zs.take (j + 1)).map pe = (zs.take j).map pe ++ [x] := by
          rw [List.take_add_one, HZJ.out]
          simp [HPX.out]
        have HNX := hid hnx
        rw [hlp] at HC
        have hjbi : (j : Int) < b := by omega
        have hm2 : min (j + 1) b = j + 1 := by omega
        have HM2 := hid hm2
        clear hmin hlp hnx hm2
        go_wp2_with fail
        refine (connect_S HS.out HO.out (by omega) x).mono ?_
        rw [HC.out]
        rintro e w2 ⟨rfl, hs2⟩
        have HS2 := hid hs2
        clear hs2
        go_wp2_with fail
        go_roundw
        case rel =>
          refine ⟨j + 1, by omega, by go_num, by rw [HM2.out]; go_num, ?_, ?_⟩
          · rw [HM2.out, HNX.out]
            exact HS2.out
          · rw [HM2.out, HNX.out]
            have h1 := HO2.out
            rw [HC.out] at h1
            exact h1
        case measure => simp [intOf] <;> omega
      · have hmin : min j b = b := by omega
        rw [hmin] at HS HO ⊢
        have hlp : ((zs.take b).map pe).length = b := by simp; omega
        have HC := hid (lineN_full b 0 ((zs.take b).map pe) x hx0 hx1 (by rw [hlp]; omega))
        have hjbi : ¬ (j : Int) < b := by omega
        have hm2 : min (j + 1) b = b := by omega
        have HM2 := hid hm2
        clear hmin hlp hm2
        go_wp2_with fail
        refine (connect_S HS.out HO.out (by omega) x).mono ?_
        rw [HC.out]
        rintro e w2 ⟨rfl, hs2⟩
        have HS2 := hid hs2
        clear hs2
        go_wp2_with fail
        go_roundw
        case rel =>
          refine ⟨j + 1, by omega, by go_num, by rw [HM2.out], ?_, ?_⟩
          · rw [HM2.out]
            exact HS2.out
          · rw [HM2.out]
            exact HO.out.mono (by omega)
        case measure => simp [intOf] <;> omega
    · have hjl : j = zs.length := by omega
      subst hjl
      obtain ⟨K, hK⟩ : ∃ K, min zs.length b = K := ⟨_, rfl⟩
      have hK1 : K ≤ zs.length := by omega
      have hK2 : K ≤ b := by omega
      rw [hK] at HS HO ⊢
      obtain ⟨ps, hps⟩ : ∃ ps, (zs.take K).map pe = ps := ⟨_, rfl⟩
      have hpl : ps.length = K := by rw [← hps]; simp; omega
      rw [hps] at HS HO
      have HPS := hid hps
      have HPL := hid hpl
      clear hK hps hpl hlt
      go_wp2_with fail
      go_loopw [11] (fun i wr => ∃ r : Nat, r ≤ K ∧ i = .int .i64 r ∧ NSt w pc [] wr n (lineN b 0 ps r) ∧ OkN (lineN b 0 ps r) (zs.length : Int)) (fun i _ => K - (intOf i).toNat)
      case atStart => exact ⟨0, Nat.zero_le _, rfl, HS.out, HO.out⟩
      case round =>
        clear HS HO
        obtain ⟨r, hr, rfl, hS, hO⟩ := hrel
        have HS := hid hS
        have HO := hid hO
        clear hS hO
        by_cases hlt3 : r < K
        · obtain ⟨pb, po, rfl, -, hc⟩ := HZ.out.at_ (by simp; omega)
          obtain ⟨z, hzj⟩ : ∃ z, zs[r]? = some z := ⟨zs[r], List.getElem?_eq_getElem (by omega)⟩
          obtain ⟨x, hx⟩ : ∃ x, bits BinOp.and IntKind.i64 z 255 = x := ⟨_, rfl⟩
          have hpx : ps[r]? = some x := by
            rw [← HPS.out]
            simp [hlt3, hzj]
            exact hx
          have hri : (r : Int) < zs.length := by omega
          have HA := hid (lineN_accept b ps r x hpx)
          have HO2 := hid (okN_accept HO.out)
          have hcell := hc r (.int .i64 z) (by simp [hzj])
          have HCELL := hid hcell
          clear hc hzj hpx hcell
          go_wp2_with fail
          refine (accept_S HS.out HO.out (by omega)).mono ?_
          rw [HA.out]
          rintro e w7 ⟨rfl, hs7⟩
          have HS7 := hid hs7
          have c0 := cell_keep hs7.keepsW (by simp) HCELL.out
          clear hs7
          go_wp2_with fail
          go_roundw
          case rel =>
            refine ⟨r + 1, by omega, by go_num, HS7.out, ?_⟩
            have h1 := HO2.out
            rw [HA.out] at h1
            exact h1
          case measure => simp [intOf] <;> omega
        · have hrK : r = K := by omega
          subst hrK
          have HN := lineN_none (b : Int) 0 ps
          rw [HPL.out] at HN
          have HN := hid HN
          have hq : (lineN (b : Int) 0 ps r).queue.length = 0 := by simp [lineN, HPL.out]
          have hop : (lineN (b : Int) 0 ps r).nopen = r := rfl
          have HQ := hid hq
          have HOP := hid hop
          clear hq hop hlt3
          go_wp2_with fail
          refine (accept_S HS.out HO.out (by omega)).mono ?_
          rw [HN.out]
          rintro e w7 ⟨rfl, hs7⟩
          have HS7 := hid hs7
          clear hs7
          go_wp2_with fail
          refine (len_S HS7.out).mono ?_
          rw [HQ.out, HOP.out]
          rintro e w8 ⟨rfl, hs8⟩
          have HS8 := hid hs8
          clear hs8
          go_wp2_with (go_at_call 33; refine (nknown_any _).mono ?_; rintro e w5 ⟨rfl, hk5⟩)
          go_ret
          exact ⟨rfl, (HS8.out.keepsW.trans hk5 (by simp)).below (Nat.le_refl _) (by simp)⟩
theorem netLine_walk (w : World) (b : Int) (_ : (Lit.int .i64 b).wf = true) (pv : Value) (zs : List Int) (hz : CellsIn w [] pv (zs.map (.int .i64))) (_ : ∀ n ∈ zs, (Lit.int .i64 n).wf = true) :
    Calls Try.prog 8 #[.int .i64 b, pv] w fun e w' => e = .returned (.bool true) ∧ Below w.heap.size w w' := by
  by_cases h : 1 ≤ b ∧ b ≤ 64 ∧ zs.length ≤ 100
  · obtain ⟨h0, h1, h2⟩ := h
    obtain ⟨b, rfl⟩ := Int.eq_ofNat_of_zero_le (by omega : 0 ≤ b)
    exact netLine_in w b pv zs hz (by omega) (by omega) h2
  · exact netLine_out w b pv zs hz (by omega)
end Go.Proofs.Ytkeffebcmajhmaa
