/- The program's net: Half, Reset, Open, Shut, Inject, Len, Marks, Ready, State by contract. -/
import Derived.Test.YtkeffebcmajhmaaNet5
namespace Go.Proofs.Ytkeffebcmajhmaa
open Go.RowKit
set_option linter.unusedVariables false
theorem half_nil (k : Int) (w : World) : Calls Try.prog 46 #[.pointer none, .int .i64 k] w fun e w' => e = .returned (.int .i64 1) ∧ Keeps [] w w' := by
  go_enter Try.func46, Try.ntmps46
  go_wp2_with (go_at_call 73; refine (theirs_nil _ _).mono ?_; rintro e w1 ⟨rfl, hk⟩)
  go_ret
  exact ⟨rfl, hk⟩
theorem reset_nil (k : Int) (w : World) : Calls Try.prog 47 #[.pointer none, .int .i64 k] w fun e w' => e = .returned (.int .i64 1) ∧ Keeps [] w w' := by
  go_enter Try.func47, Try.ntmps47
  go_wp2_with (go_at_call 73; refine (theirs_nil _ _).mono ?_; rintro e w1 ⟨rfl, hk⟩)
  go_ret
  exact ⟨rfl, hk⟩
theorem shut_nil (k : Int) (w : World) : Calls Try.prog 64 #[.pointer none, .int .i64 k] w fun e w' => e = .returned (.int .i64 1) ∧ Keeps [] w w' := by
  go_enter Try.func64, Try.ntmps64
  go_wp2_with (go_at_call 74; refine (ours_nil _ _).mono ?_; rintro e w1 ⟨rfl, hk⟩)
  go_ret
  exact ⟨rfl, hk⟩
theorem open_nil (k b : Int) (w : World) : Calls Try.prog 40 #[.pointer none, .int .i64 k, .int .i64 b] w fun e w' => e = .returned (.int .i64 1) ∧ Keeps [] w w' := by
  go_enter Try.func40, Try.ntmps40
  go_wp2
  go_ret
  exact ⟨rfl, Keeps.refl _ _⟩
theorem inject_nil (k : Int) (w : World) : Calls Try.prog 35 #[.pointer none, .int .i64 k] w fun e w' => e = .returned (.tuple #[]) ∧ Keeps [] w w' := by
  go_enter Try.func35, Try.ntmps35
  go_wp2
  go_end0
  exact ⟨rfl, Keeps.refl _ _⟩
theorem len_nil (w : World) : Calls Try.prog 38 #[.pointer none] w fun e w' => e = .returned (.tuple #[.int .i64 0, .int .i64 0]) ∧ Keeps [] w w' := by
  go_enter Try.func38, Try.ntmps38
  go_wp2
  go_ret2
  exact ⟨rfl, Keeps.refl _ _⟩
theorem inject_any (n : Nat) (F : List Nat) (N : NS) (k : Int) (w : World) (h : NRep pc w n F N) (hk0 : -9223372036854775808 ≤ k) (hk1 : k ≤ 9223372036854775807) :
    Calls Try.prog 35 #[.pointer (some ⟨n, 0, none⟩), .int .i64 k] w fun e w' => e = .returned (.tuple #[]) ∧ NDone pc w n F (injectN N k) w' := by
  obtain ⟨own, ps, vc, vq, h⟩ := h
  have c4 := h.blk.cell 4
  have f4 := h.blk.frozen 4
  simp [pc] at c4
  have hnF : n ∈ F := h.ftag n (by rw [h.tn]; omega)
  have HB := hid (h.blk.set_ 4 (.int .i64 (max 0 k)))
  have HH : Hid (∀ W, Keeps [n] w W → Blk W n pc.NT (pc.nlay (injectN N k) vc vq) → NDone pc w n F (injectN N k) W) := by
    refine hid fun W hW hB => ⟨h.head (G := [n]) (vq' := vq) rfl hW ?_ hB (h.rq.keeps hW ?_) (fun k e => .inl ⟨h.rq.lt k e, h.oq k e⟩), hW.mono (by simp; exact hnF)⟩
    · intro k hk _
      simp at hk
      subst hk
      exact .inl h.tn
    · intro k e hx
      simp at hx
      subst hx
      have := h.oq k e
      rw [h.tn] at this
      omega
  clear h
  rcases (by omega : 0 < k ∨ k ≤ 0) with g | g
  · have hm : max 0 k = k := by omega
    rw [hm] at HB
    go_enter Try.func35, Try.ntmps35
    go_wp2
    go_end0
    refine ⟨rfl, HH.out _ ?_ ?_⟩
    · exact (Keeps.refl _ _).setCell (p := ⟨n, 4, none⟩) (.inl (by simp)) _
    · simpa [pc, injectN, hm] using HB.out
  · have hm : max 0 k = 0 := by omega
    rw [hm] at HB
    go_enter Try.func35, Try.ntmps35
    go_wp2
    go_end0
    refine ⟨rfl, HH.out _ ?_ ?_⟩
    · exact (Keeps.refl _ _).setCell (p := ⟨n, 4, none⟩) (.inl (by simp)) _
    · simpa [pc, injectN, hm] using HB.out
theorem len_any (n : Nat) (F : List Nat) (N : NS) (w : World) (h : NRep pc w n F N) :
    Calls Try.prog 38 #[.pointer (some ⟨n, 0, none⟩)] w fun e w' => e = .returned (.tuple #[.int .i64 N.queue.length, .int .i64 N.nopen]) ∧ Keeps [] w w' := by
  obtain ⟨own, ps, vc, vq, h⟩ := h
  have c2 := h.blk.cell 2
  have c6 := h.blk.cell 6
  simp [pc] at c2 c6
  obtain ⟨A, cap, rfl, -⟩ := h.rq.form
  clear h
  go_enter Try.func38, Try.ntmps38
  go_wp2_with fail
  go_quiet (fail)
  go_wp2
  go_ret2
  exact ⟨rfl, (Keeps.refl _ _).drewN _⟩
theorem breaks_any (p : Nat) (cs : Array Value) (w : World) (h : Blk w p 145 cs) (hs : cs.size = 13) :
    Calls Try.prog 77 #[.pointer (some ⟨p, 0, none⟩)] w fun e w' => e = .returned (.tuple #[]) ∧ w' = ((w.setCell ⟨p, 2, none⟩ (.bool true)).setCell ⟨p, 7, none⟩ (.slice none 0 0)).setCell ⟨p, 8, none⟩ (.int .i64 0) := by
  have c2 := h.cell 2
  have c7 := h.cell 7
  have c8 := h.cell 8
  rw [Array.getElem?_eq_getElem (by omega)] at c2 c7 c8
  have f2 := h.frozen 2
  have f7 := h.frozen 7
  have f8 := h.frozen 8
  clear h
  go_enter Try.func77, Try.ntmps77
  go_wp2_with fail
  go_end0
  exact ⟨rfl, rfl⟩
set_option maxHeartbeats 1000000 in
theorem half_any (n : Nat) (F : List Nat) (N : NS) (B k : Int) (w : World) (h : NRep pc w n F N) (hN : OkN N B) (hB : B ≤ 1099511627776) :
    Calls Try.prog 46 #[.pointer (some ⟨n, 0, none⟩), .int .i64 k] w fun e w' => e = .returned (.int .i64 (halfN N k).2) ∧ NDone pc w n F (halfN N k).1 w' := by
  have hR := hid h
  obtain ⟨own, ps, vc, vq, h⟩ := h
  have H := hid h
  unfold halfN
  rcases h.which k with hk | ⟨i, p, d, rfl, hp, hd⟩
  · rw [onConn_none hk]
    have HK := hid hk
    clear h hk hN
    go_enter Try.func46, Try.ntmps46
    go_wp2_with (go_at_call 73; refine (theirs_out H.out _ HK.out).mono ?_; rintro e w1 ⟨rfl, hk⟩)
    go_ret
    exact ⟨rfl, NDone.same hR.out hk⟩
  · rw [onConn_some hd]
    obtain ⟨vi, vo, vt, hc⟩ := h.at_ i p d hp hd
    have hok := hN.cn d (List.mem_of_getElem? hd)
    have hr0 := hok.r0
    have hr1 := hok.r1
    have HD := hid hd
    have HP := hid hp
    have HC := hid hc
    have hT := fun w => theirs_in (w := w) (n := n) (F := F) (own := own) (ps := ps) (vc := vc) (vq := vq) (N := N)
    have hw1 : IntKind.i64.wrap (d.reads + 1) = d.reads + 1 := IntWalk.i64_in _ (by omega)
    have c4 := hc.1.cell 4
    have c9 := hc.1.cell 9
    have f4 := hc.1.frozen 4
    have f9 := hc.1.frozen 9
    simp [pc] at c4 c9
    obtain ⟨t, ht⟩ : ∃ t, theirsD d = t := ⟨_, rfl⟩
    obtain ⟨v, hv⟩ : ∃ v, ptrIf t p = v := ⟨_, rfl⟩
    have HT : Hid (∀ W, Keeps [] w W → Calls Try.prog 73 #[.pointer (some ⟨n, 0, none⟩), .int .i64 i] W fun e w' => e = .returned (.tuple #[v, .int .i64 t]) ∧ Keeps [] W w') := by
      refine hid fun W hW => ?_
      have := theirs_in (H.out.keeps hW (by simp)) i p d HP.out HD.out
      rw [ht, hv] at this
      exact this
    clear h hN hok hp hd hc hT
    unfold halfD
    rw [ht]
    by_cases h0 : t = 0
    · subst h0
      simp [ptrIf] at hv
      subst hv
      clear ht
      obtain ⟨hv, hhv⟩ : ∃ b, d.halved = b := ⟨_, rfl⟩
      rw [hhv] at c4
      cases hv with
      | true =>
        rw [if_pos rfl, if_pos hhv]
        simp only
        rw [upd_self HD.out]
        clear hhv
        go_enter Try.func46, Try.ntmps46
        go_wp2_with (go_at_call 73; refine (HT.out _ (Keeps.refl _ _)).mono ?_; rintro e w1 ⟨rfl, hk⟩; have e4 := cell_keep hk (by simp) c4)
        go_ret
        exact ⟨rfl, NDone.same hR.out hk⟩
      | false =>
        rw [if_pos rfl, if_neg (by rw [hhv]; simp)]
        simp only
        have HHV := hid hhv
        clear hhv
        go_enter Try.func46, Try.ntmps46
        go_wp2_with (go_at_call 73; refine (HT.out _ (Keeps.refl _ _)).mono ?_; rintro e w1 ⟨rfl, hk⟩; have e4 := cell_keep hk (by simp) c4; have e9 := cell_keep hk (by simp) c9; have g4 := (HC.out.1.keeps hk (by simp)).frozen 4; have g9 := (HC.out.1.keeps hk (by simp)).frozen 9)
        go_ret
        refine ⟨rfl, NDone.after (H.out.keeps hk (by simp)) hk ?_⟩
        refine NAt.cells (H.out.keeps hk (by simp)) HP.out HD.out (HC.out.keeps hk (by simp)) (((Keeps.refl [p] w1).setCell (p := ⟨p, 4, none⟩) (.inl (by simp)) _).setCell (p := ⟨p, 9, none⟩) (.inl (by simp)) _) _ vi rfl ?_ (.inl ⟨rfl, rfl⟩) rfl rfl
        simpa [pc] using ((HC.out.1.keeps hk (by simp)).set_ 4 (.bool true)).set_ 9 (.int .i64 (d.reads + 1))
    · rw [if_neg h0]
      simp only
      rw [upd_self HD.out]
      simp [ptrIf, h0] at hv
      subst hv
      have HT0 := hid ht
      have hne : (t == 0) = false := by simp [h0]
      have hne2 : (t != 0) = true := by simp [h0]
      clear h0 ht
      go_enter Try.func46, Try.ntmps46
      go_wp2_with (go_at_call 73; refine (HT.out _ (Keeps.refl _ _)).mono ?_; rintro e w1 ⟨rfl, hk⟩)
      go_ret
      exact ⟨rfl, NDone.same hR.out hk⟩
end Go.Proofs.Ytkeffebcmajhmaa
