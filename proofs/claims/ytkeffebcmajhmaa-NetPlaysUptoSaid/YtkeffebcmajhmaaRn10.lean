/- The reference's net: Close by contract. -/
import Derived.Test.YtkeffebcmajhmaaRn9
namespace Go.Proofs.Ytkeffebcmajhmaa
open Go.RowKit
set_option linter.unusedVariables false
set_option linter.unusedSimpArgs false
set_option maxRecDepth 100000 in
set_option maxHeartbeats 8000000 in
theorem rclose_any (n : Nat) (F : List Nat) (N : NS) (B : Int) (cv : Value) (l : List Int) (w : World) (h : NRep rc w n F N) (hN : OkN N B) (hr : CellsIn w F cv (l.map (.int .i64))) (hl : l.length ≤ 1099511627776) :
    Calls Try.prog 91 #[.pointer (some ⟨n, 0, none⟩), cv] w fun e w' => e = .returned (.int .i64 (closeN N l).2) ∧ NDone rc w n F (closeN N l).1 w' := by
  obtain ⟨own, ps, vc, vq, h⟩ := h
  have H := hid h
  have HOK := hid hN
  have HR := hid hr
  obtain ⟨A, c, rfl, h1, h2⟩ := hr.shape
  simp only [List.length_map] at h1 HR ⊢
  have hnF : n ∈ F := h.ftag n (by rw [h.tn]; omega)
  clear hr h hN
  go_enter Try.func91, Try.ntmps91
  go_wp2_with fail
  go_loopw [5, 6] (fun many j wr => ∃ k : Nat, k ≤ l.length ∧ j = .int .i64 k ∧ many = .int .i64 (closeN N (l.take k)).2 ∧ 0 ≤ (closeN N (l.take k)).2 ∧ (closeN N (l.take k)).2 ≤ k ∧ NAt rc wr n F own ps vc vq (closeN N (l.take k)).1 ∧ Keeps F w wr) (fun _ j _ => l.length - (intOf j).toNat)
  case atStart => exact ⟨0, Nat.zero_le _, rfl, rfl, by simp [closeN], by simp [closeN], by simpa [closeN] using H.out, Keeps.refl _ _⟩
  case round =>
    obtain ⟨k, hk, rfl, rfl, hm0, hm1, hS, hkp⟩ := hrel
    have HS := hid hS
    have HKP := hid hkp
    clear hS hkp
    by_cases hlt : k < l.length
    · obtain ⟨b, o, rfl, hbF, hc⟩ := HR.out.at_ (by simp; omega)
      have c0 := cell_keep HKP.out hbF (hc k (.int .i64 (l[k])) (by simp [hlt]))
      have hki : (k : Int) < l.length := by omega
      obtain ⟨x, hx⟩ : ∃ x, l[k] = x := ⟨_, rfl⟩
      have HNX : Hid (l.take (k + 1) = l.take k ++ [x]) := by
        rw [List.take_add_one, List.getElem?_eq_getElem hlt, hx]
        exact hid rfl
      rw [hx] at c0
      have hok : OkN (closeN N (l.take k)).1 B := okN_close _ HOK.out
      have HSN := hid (closeN_snoc (l.take k) x N)
      obtain ⟨NK, hNK⟩ : ∃ r, closeN N (l.take k) = r := ⟨_, rfl⟩
      rw [hNK] at HS HSN hm0 hm1 hok ⊢
      obtain ⟨Nk, mk⟩ := NK
      have HE := hid hNK
      simp only at HS HSN hm0 hm1 hok ⊢
      have n1 := HS.out.blk.cell 1
      simp [rc] at n1
      clear hc hx hNK
      rcases HS.out.which x with hxk | ⟨i, p, d, rfl, hp, hd⟩
      · have HX := hid hxk
        have HC1 : Hid (close1 Nk x = (Nk, 0)) := by
          unfold close1
          rw [cnAt_none hxk]
          exact hid rfl
        obtain ⟨CA, ccap, hvc, -⟩ := HS.out.rc.form
        rw [hvc] at n1
        have HVC := hid hvc
        clear hvc
        have hdc : decide (0 ≤ x) = false ∨ (decide (0 ≤ x) = true ∧ decide (x < (Nk.cs.length : Int)) = false) := by
          rcases hxk with h | ⟨h1, h2⟩
          · exact .inl (by simp; omega)
          · exact .inr ⟨by simpa using h1, by simp; omega⟩
        clear hxk
        rcases hdc with d0 | ⟨d0, d1⟩
        all_goals
          go_wp2_with fail
          go_quiet (fail)
          go_wp2_with fail
          go_roundw
          case rel => exact ⟨k + 1, by omega, by go_num, by rw [HNX.out, HSN.out, HC1.out]; simp, by rw [HNX.out, HSN.out, HC1.out]; simp; omega, by rw [HNX.out, HSN.out, HC1.out]; simp; omega, by rw [HNX.out, HSN.out, HC1.out]; exact HS.out.keeps ((Keeps.refl [] wr).drewN _) (by simp), HKP.out.drewN _⟩
          case measure => simp [intOf] <;> omega
      · obtain ⟨p', b', off, ccap, hp', hvc, hkl, hle, hccm, hcell, hbn, vi, vo, vt, hcat⟩ := HS.out.conn hd
        rw [hp] at hp'
        injection hp' with hp'
        subst hp'
        rw [hvc] at n1
        have c2 := hcat.1.cell 2
        have f2 := hcat.1.frozen 2
        simp [rc] at c2
        have hpn : p ≠ n := fun e => by
          have a := HS.out.tn
          have b := hcat.2.1
          rw [← e, b] at a
          omega
        have hnp : n ≠ p := Ne.symm hpn
        have hbp : b' ≠ p := fun e => by
          have a1 := HS.out.oc b' (by rw [hvc]; simp [Value.ownBlock])
          have a2 := hcat.2.1
          rw [← e, a1] at a2
          omega
        have HP := hid hp
        have HD := hid hd
        have HC := hid hcat
        have HVC := hid hvc
        have hpF : p ∈ F := HS.out.ftag p (by rw [hcat.2.1]; omega)
        obtain ⟨bo, hbo⟩ : ∃ b, d.opn = b := ⟨_, rfl⟩
        rw [hbo] at c2
        have hii : (i : Int) < Nk.cs.length := by omega
        have d0 : decide (0 ≤ (i : Int)) = true := by simp
        have d1 : decide ((i : Int) < (Nk.cs.length : Int)) = true := by simpa using hii
        cases bo with
        | false =>
          have HC1 : Hid (close1 Nk i = (Nk, 0)) := by
            unfold close1
            rw [cnAt_some hd]
            simp only
            rw [if_neg (by rw [hbo]; simp)]
            exact hid rfl
          clear hp hd hcat hbo hok hvc
          go_wp2_with fail
          go_quiet (fail)
          go_wp2_with fail
          go_roundw
          case rel => exact ⟨k + 1, by omega, by go_num, by rw [HNX.out, HSN.out, HC1.out]; simp, by rw [HNX.out, HSN.out, HC1.out]; simp; omega, by rw [HNX.out, HSN.out, HC1.out]; simp; omega, by rw [HNX.out, HSN.out, HC1.out]; exact HS.out.keeps ((Keeps.refl [] wr).drewN _) (by simp), HKP.out.drewN _⟩
          case measure => simp [intOf] <;> omega
        | true =>
          have HC1 : Hid (close1 Nk i = ({ Nk with cs := Nk.cs.set i { d with opn := false }, nopen := Nk.nopen - 1 }, 1)) := by
            unfold close1
            rw [cnAt_some hd]
            simp only
            rw [if_pos hbo]
            exact hid rfl
          clear hp hd hcat hbo hok hvc
          go_wp2_with fail
          go_quiet (fail)
          go_wp2_with fail
          go_region_law (fail)
          all_goals
            go_wp2_with fail
            go_roundw
            case rel =>
              have hkk : Keeps [n, p] wr (wr.setCell ⟨p, 2, none⟩ (.bool false)) := (Keeps.refl [n, p] wr).setCell (p := ⟨p, 2, none⟩) (.inl (by simp)) _
              have hall : NAt rc (wr.setCell ⟨p, 2, none⟩ (.bool false)) n F own ps vc vq { Nk with cs := Nk.cs.set i { d with opn := false }, nopen := Nk.nopen - 1 } := by
                refine HS.out.fix (d' := { d with opn := false }) (vi := vi) (vo := vo) (vt := vt) HP.out rfl rfl hkk (by simp) ?_ ⟨?_, HC.out.2.1, ?_, ?_, ?_⟩
                · simpa [rc] using HS.out.blk.far (p := ⟨p, 2, none⟩) hnp (.bool false)
                · simpa [rc] using HC.out.1.set_ 2 (.bool false)
                all_goals
                  have a := HC.out.2.1
                  have b := HS.out.tn
                  refine BRow.keeps (K := [n, p]) ?_ hkk (fun k hk hx => by simp at hx; rcases hx with rfl | rfl <;> omega)
                · exact HC.out.2.2.1
                · exact HC.out.2.2.2.1
                · exact HC.out.2.2.2.2
              have hkf : Keeps F w (wr.setCell ⟨p, 2, none⟩ (.bool false)) := HKP.out.setCell (p := ⟨p, 2, none⟩) (.inl hpF) _
              refine ⟨k + 1, by omega, by go_num, by rw [HNX.out, HSN.out, HC1.out], by rw [HNX.out, HSN.out, HC1.out]; simp; omega, by rw [HNX.out, HSN.out, HC1.out]; simp; omega, ?_, ?_⟩
              · rw [HNX.out, HSN.out, HC1.out]
                exact hall.keeps (K := []) ⟨rfl, rfl, rfl, Nat.le_refl _, fun _ _ _ => rfl⟩ (by simp)
              · exact ⟨hkf.os, hkf.tape, hkf.output, hkf.size, hkf.block⟩
            case measure => simp [intOf] <;> omega
    · have hkl : k = l.length := by omega
      subst hkl
      rw [List.take_length] at HS ⊢
      go_wp2_with fail
      go_ret
      exact ⟨rfl, ⟨F, ⟨own, ps, vc, vq, HS.out⟩, fun k hk => .inl hk⟩, HKP.out⟩
end Go.Proofs.Ytkeffebcmajhmaa
