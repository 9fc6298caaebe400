/- The program's net: Half, Reset, Open, Shut, Inject, Len, Marks, Ready, State by contract. -/
import Derived.Test.YtkeffebcmajhmaaPq04
namespace Go.Proofs.Ytkeffebcmajhmaa
open Go.RowKit
set_option linter.unusedVariables false
theorem half_nil (k : Int) (w : World) : Calls Try.prog 46 #[.pointer none, .int .i64 k] w fun e w' => e = .returned (.int .i64 1) ∧ Keeps [] w w' := by
  go_enter Try.func46, Try.ntmps46
  go_wp2_with (go_at_call 73; refine (theirs_nil _ _).mono ?_; rintro e w1 ⟨rfl, hk⟩)
  go_ret
  exact ⟨rfl, hk⟩
theorem reset_nil (k : Int) (w : World) : Calls Try.prog 47 #[.pointer none, .int .i64 k] w fun e w' => e = .returned (.int .i64 1) ∧ Keeps [] w w' := by
  go_enter Try.func47, Try.ntmps47
  go_wp2_with (go_at_call 73; refine (theirs_nil _ _).mono ?_; rintro e w1 ⟨rfl, hk⟩)
  go_ret
  exact ⟨rfl, hk⟩
theorem shut_nil (k : Int) (w : World) : Calls Try.prog 64 #[.pointer none, .int .i64 k] w fun e w' => e = .returned (.int .i64 1) ∧ Keeps [] w w' := by
  go_enter Try.func64, Try.ntmps64
  go_wp2_with (go_at_call 74; refine (ours_nil _ _).mono ?_; rintro e w1 ⟨rfl, hk⟩)
  go_ret
  exact ⟨rfl, hk⟩
theorem open_nil (k b : Int) (w : World) : Calls Try.prog 40 #[.pointer none, .int .i64 k, .int .i64 b] w fun e w' => e = .returned (.int .i64 1) ∧ Keeps [] w w' := by
  go_enter Try.func40, Try.ntmps40
  go_wp2
  go_ret
  exact ⟨rfl, Keeps.refl _ _⟩
theorem inject_nil (k : Int) (w : World) : Calls Try.prog 35 #[.pointer none, .int .i64 k] w fun e w' => e = .returned (.tuple #[]) ∧ Keeps [] w w' := by
  go_enter Try.func35, Try.ntmps35
  go_wp2
  go_end0
  exact ⟨rfl, Keeps.refl _ _⟩
theorem len_nil (w : World) : Calls Try.prog 38 #[.pointer none] w fun e w' => e = .returned (.tuple #[.int .i64 0, .int .i64 0]) ∧ Keeps [] w w' := by
  go_enter Try.func38, Try.ntmps38
  go_wp2
  go_ret2
  exact ⟨rfl, Keeps.refl _ _⟩
theorem inject_any (n : Nat) (F : List Nat) (N : NS) (k : Int) (w : World) (h : NRep pc w n F N) (hk0 : -9223372036854775808 ≤ k) (hk1 : k ≤ 9223372036854775807) :
    Calls Try.prog 35 #[.pointer (some ⟨n, 0, none⟩), .int .i64 k] w fun e w' => e = .returned (.tuple #[]) ∧ NDone pc w n F (injectN N k) w' := by
  obtain ⟨own, ps, vc, vq, h⟩ := h
  have c4 := h.blk.cell 4
  have f4 := h.blk.frozen 4
  simp [pc] at c4
  have hnF : n ∈ F := h.ftag n (by rw [h.tn]; omega)
  have HB := hid (h.blk.set_ 4 (.int .i64 (max 0 k)))
  have HH : Hid (∀ W, Keeps [n] w W → Blk W n pc.NT (pc.nlay (injectN N k) vc vq) → NDone pc w n F (injectN N k) W) := by
    refine hid fun W hW hB => ⟨h.head (G := [n]) (vq' := vq) rfl hW ?_ hB (h.rq.keeps hW ?_) (fun k e => .inl ⟨h.rq.lt k e, h.oq k e⟩), hW.mono (by simp; exact hnF)⟩
    · intro k hk _
      simp at hk
      subst hk
      exact .inl h.tn
    · intro k e hx
      simp at hx
      subst hx
      have := h.oq k e
      rw [h.tn] at this
      omega
  clear h
  rcases (by omega : 0 < k ∨ k ≤ 0) with g | g
  · have hm : max 0 k = k := by omega
    rw [hm] at HB
    go_enter Try.func35, Try.ntmps35
    go_wp2
    go_end0
    refine ⟨rfl, HH.out _ ?_ ?_⟩
    · exact (Keeps.refl _ _).setCell (p := ⟨n, 4, none⟩) (.inl (by simp)) _
    · simpa [pc, injectN, hm] using HB.out
  · have hm : max 0 k = 0 := by omega
    rw [hm] at HB
    go_enter Try.func35, Try.ntmps35
    go_wp2
    go_end0
    refine ⟨rfl, HH.out _ ?_ ?_⟩
    · exact (Keeps.refl _ _).setCell (p := ⟨n, 4, none⟩) (.inl (by simp)) _
    · simpa [pc, injectN, hm] using HB.out
theorem len_any (n : Nat) (F : List Nat) (N : NS) (w : World) (h : NRep pc w n F N) :
    Calls Try.prog 38 #[.pointer (some ⟨n, 0, none⟩)] w fun e w' => e = .returned (.tuple #[.int .i64 N.queue.length, .int .i64 N.nopen]) ∧ Keeps [] w w' := by
  obtain ⟨own, ps, vc, vq, h⟩ := h
  have c2 := h.blk.cell 2
  have c6 := h.blk.cell 6
  simp [pc] at c2 c6
  obtain ⟨A, cap, rfl, -⟩ := h.rq.form
  clear h
  go_enter Try.func38, Try.ntmps38
  go_wp2_with fail
  go_quiet (fail)
  go_wp2
  go_ret2
  exact ⟨rfl, (Keeps.refl _ _).drewN _⟩
theorem breaks_any (p : Nat) (cs : Array Value) (w : World) (h : Blk w p 145 cs) (hs : cs.size = 13) :
    Calls Try.prog 77 #[.pointer (some ⟨p, 0, none⟩)] w fun e w' => e = .returned (.tuple #[]) ∧ w' = ((w.setCell ⟨p, 2, none⟩ (.bool true)).setCell ⟨p, 7, none⟩ (.slice none 0 0)).setCell ⟨p, 8, none⟩ (.int .i64 0) := by
  have c2 := h.cell 2
  have c7 := h.cell 7
  have c8 := h.cell 8
  rw [Array.getElem?_eq_getElem (by omega)] at c2 c7 c8
  have f2 := h.frozen 2
  have f7 := h.frozen 7
  have f8 := h.frozen 8
  clear h
  go_enter Try.func77, Try.ntmps77
  go_wp2_with fail
  go_end0
  exact ⟨rfl, rfl⟩
set_option maxHeartbeats 1000000 in
theorem half_any (n : Nat) (F : List Nat) (N : NS) (B k : Int) (w : World) (h : NRep pc w n F N) (hN : OkN N B) (hB : B ≤ 1099511627776) :
    Calls Try.prog 46 #[.pointer (some ⟨n, 0, none⟩), .int .i64 k] w fun e w' => e = .returned (.int .i64 (halfN N k).2) ∧ NDone pc w n F (halfN N k).1 w' := by
  have hR := hid h
  obtain ⟨own, ps, vc, vq, h⟩ := h
  have H := hid h
  unfold halfN
  rcases h.which k with hk | ⟨i, p, d, rfl, hp, hd⟩
  · rw [onConn_none hk]
    have HK := hid hk
    clear h hk hN
    go_enter Try.func46, Try.ntmps46
    go_wp2_with (go_at_call 73; refine (theirs_out H.out _ HK.out).mono ?_; rintro e w1 ⟨rfl, hk⟩)
    go_ret
    exact ⟨rfl, NDone.same hR.out hk⟩
  · rw [onConn_some hd]
    obtain ⟨vi, vo, vt, hc⟩ := h.at_ i p d hp hd
    have hok := hN.cn d (List.mem_of_getElem? hd)
    have hr0 := hok.r0
    have hr1 := hok.r1
    have HD := hid hd
    have HP := hid hp
    have HC := hid hc
    have hT := fun w => theirs_in (w := w) (n := n) (F := F) (own := own) (ps := ps) (vc := vc) (vq := vq) (N := N)
    have hw1 : IntKind.i64.wrap (d.reads + 1) = d.reads + 1 := IntWalk.i64_in _ (by omega)
    have c4 := hc.1.cell 4
    have c9 := hc.1.cell 9
    have f4 := hc.1.frozen 4
    have f9 := hc.1.frozen 9
    simp [pc] at c4 c9
    obtain ⟨t, ht⟩ : ∃ t, theirsD d = t := ⟨_, rfl⟩
    obtain ⟨v, hv⟩ : ∃ v, ptrIf t p = v := ⟨_, rfl⟩
    have HT : Hid (∀ W, Keeps [] w W → Calls Try.prog 73 #[.pointer (some ⟨n, 0, none⟩), .int .i64 i] W fun e w' => e = .returned (.tuple #[v, .int .i64 t]) ∧ Keeps [] W w') := by
      refine hid fun W hW => ?_
      have := theirs_in (H.out.keeps hW (by simp)) i p d HP.out HD.out
      rw [ht, hv] at this
      exact this
    clear h hN hok hp hd hc hT
    unfold halfD
    rw [ht]
    by_cases h0 : t = 0
    · subst h0
      simp [ptrIf] at hv
      subst hv
      clear ht
      obtain ⟨hv, hhv⟩ : ∃ b, d.halved = b := ⟨_, rfl⟩
      rw [hhv] at c4
      cases hv with
      | true =>
        rw [if_pos rfl, if_pos hhv]
        simp only
        rw [upd_self HD.out]
        clear hhv
        go_enter Try.func46, Try.ntmps46
        go_wp2_with (go_at_call 73; refine (HT.out _ (Keeps.refl _ _)).mono ?_; rintro e w1 ⟨rfl, hk⟩; have e4 := cell_keep hk (by simp) c4)
        go_ret
        exact ⟨rfl, NDone.same hR.out hk⟩
      | false =>
        rw [if_pos rfl, if_neg (by rw [hhv]; simp)]
        simp only
        have HHV := hid hhv
        clear hhv
        go_enter Try.func46, Try.ntmps46
        go_wp2_with (go_at_call 73; refine (HT.out _ (Keeps.refl _ _)).mono ?_; rintro e w1 ⟨rfl, hk⟩; have e4 := cell_keep hk (by simp) c4; have e9 := cell_keep hk (by simp) c9; have g4 := (HC.out.1.keeps hk (by simp)).frozen 4; have g9 := (HC.out.1.keeps hk (by simp)).frozen 9)
        go_ret
        refine ⟨rfl, NDone.after (H.out.keeps hk (by simp)) hk ?_⟩
        refine NAt.cells (H.out.keeps hk (by simp)) HP.out HD.out (HC.out.keeps hk (by simp)) (((Keeps.refl [p] w1).setCell (p := ⟨p, 4, none⟩) (.inl (by simp)) _).setCell (p := ⟨p, 9, none⟩) (.inl (by simp)) _) _ vi rfl ?_ (.inl ⟨rfl, rfl⟩) rfl rfl
        simpa [pc] using ((HC.out.1.keeps hk (by simp)).set_ 4 (.bool true)).set_ 9 (.int .i64 (d.reads + 1))
    · rw [if_neg h0]
      simp only
      rw [upd_self HD.out]
      simp [ptrIf, h0] at hv
      subst hv
      have HT0 := hid ht
      have hne : (t == 0) = false := by simp [h0]
      have hne2 : (t != 0) = true := by simp [h0]
      clear h0 ht
      go_enter Try.func46, Try.ntmps46
      go_wp2_with (go_at_call 73; refine (HT.out _ (Keeps.refl _ _)).mono ?_; rintro e w1 ⟨rfl, hk⟩)
      go_ret
      exact ⟨rfl, NDone.same hR.out hk⟩
end Go.Proofs.Ytkeffebcmajhmaa
/- The program's net: Reset, Open, Shut by contract. -/
namespace Go.Proofs.Ytkeffebcmajhmaa
open Go.RowKit
set_option linter.unusedVariables false
theorem theirs_W {w : World} {n : Nat} {F : List Nat} {own : Nat → Nat} {ps : List Nat} {vc vq v : Value} {N : NS} {i p : Nat} {d : Cn} {t : Int} (h : NAt pc w n F own ps vc vq N) (hp : ps[i]? = some p) (hd : N.cs[i]? = some d) (ht : theirsD d = t) (hv : ptrIf t p = v) :
    ∀ W, Keeps [] w W → Calls Try.prog 73 #[.pointer (some ⟨n, 0, none⟩), .int .i64 i] W fun e w' => e = .returned (.tuple #[v, .int .i64 t]) ∧ Keeps [] W w' := by
  intro W hW
  have := theirs_in (h.keeps hW (by simp)) i p d hp hd
  rw [ht, hv] at this
  exact this
theorem ours_W {w : World} {n : Nat} {F : List Nat} {own : Nat → Nat} {ps : List Nat} {vc vq v : Value} {N : NS} {i p : Nat} {d : Cn} {t : Int} (h : NAt pc w n F own ps vc vq N) (hp : ps[i]? = some p) (hd : N.cs[i]? = some d) (ht : oursD d = t) (hv : ptrIf t p = v) :
    ∀ W, Keeps [] w W → Calls Try.prog 74 #[.pointer (some ⟨n, 0, none⟩), .int .i64 i] W fun e w' => e = .returned (.tuple #[v, .int .i64 t]) ∧ Keeps [] W w' := by
  intro W hW
  have := ours_in (h.keeps hW (by simp)) i p d hp hd
  rw [ht, hv] at this
  exact this
set_option maxHeartbeats 1000000 in
theorem reset_any (n : Nat) (F : List Nat) (N : NS) (B k : Int) (w : World) (h : NRep pc w n F N) (hN : OkN N B) (hB : B ≤ 1099511627776) :
    Calls Try.prog 47 #[.pointer (some ⟨n, 0, none⟩), .int .i64 k] w fun e w' => e = .returned (.int .i64 (resetN N k).2) ∧ NDone pc w n F (resetN N k).1 w' := by
  have hR := hid h
  obtain ⟨own, ps, vc, vq, h⟩ := h
  have H := hid h
  unfold resetN
  rcases h.which k with hk | ⟨i, p, d, rfl, hp, hd⟩
  · rw [onConn_none hk]
    have HK := hid hk
    clear h hk hN
    go_enter Try.func47, Try.ntmps47
    go_wp2_with (go_at_call 73; refine (theirs_out H.out _ HK.out).mono ?_; rintro e w1 ⟨rfl, hk⟩)
    go_ret
    exact ⟨rfl, NDone.same hR.out hk⟩
  · rw [onConn_some hd]
    obtain ⟨vi, vo, vt, hc⟩ := h.at_ i p d hp hd
    have hok := hN.cn d (List.mem_of_getElem? hd)
    have hr0 := hok.r0
    have hr1 := hok.r1
    have hs0 := hok.s0
    have hs1 := hok.s1
    have hw1 : IntKind.i64.wrap (d.reads + 1) = d.reads + 1 := IntWalk.i64_in _ (by omega)
    have hw2 : IntKind.i64.wrap (d.writes + 1) = d.writes + 1 := IntWalk.i64_in _ (by omega)
    have HD := hid hd
    have HP := hid hp
    have HC := hid hc
    have c9 := hc.1.cell 9
    have c10 := hc.1.cell 10
    simp [pc] at c9 c10
    obtain ⟨t, ht⟩ : ∃ t, theirsD d = t := ⟨_, rfl⟩
    obtain ⟨v, hv⟩ : ∃ v, ptrIf t p = v := ⟨_, rfl⟩
    have HT := hid (theirs_W h hp hd ht hv)
    clear h hN hok hp hd hc
    unfold resetD
    rw [ht]
    by_cases h0 : t = 0
    · subst h0
      simp [ptrIf] at hv
      subst hv
      clear ht
      rw [if_pos rfl]
      simp only
      go_enter Try.func47, Try.ntmps47
      go_wp2_with (first
        | (go_at_call 73; refine (HT.out _ (Keeps.refl _ _)).mono ?_; rintro e w1 ⟨rfl, hk⟩; have HK1 := hid hk; have e9 := cell_keep hk (by simp) c9; have e10 := cell_keep hk (by simp) c10; clear hk)
        | (go_at_call 77; refine (breaks_any p _ _ (HC.out.1.keeps HK1.out (by simp)) (by simp [pc])).mono ?_; rintro e w2 ⟨rfl, hw2⟩; have hb2 := (((HC.out.1.keeps HK1.out (by simp)).set_ 2 (.bool true)).set_ 7 (.slice none 0 0)).set_ 8 (.int .i64 0); have hk2 : Keeps [p] w1 w2 := (by rw [hw2]; exact (((Keeps.refl [p] w1).setCell (p := ⟨p, 2, none⟩) (.inl (by simp)) _).setCell (p := ⟨p, 7, none⟩) (.inl (by simp)) _).setCell (p := ⟨p, 8, none⟩) (.inl (by simp)) _); rw [← hw2] at hb2; have g9 := hb2.cell 9; have g10 := hb2.cell 10; have k9 := hb2.frozen 9; have k10 := hb2.frozen 10; simp [pc] at g9 g10; have HB2 := hid hb2; have HK2 := hid hk2; clear hb2 hk2 hw2))
      go_ret
      refine ⟨rfl, NDone.after (H.out.keeps HK1.out (by simp)) HK1.out ?_⟩
      refine NAt.cells (H.out.keeps HK1.out (by simp)) HP.out HD.out (HC.out.keeps HK1.out (by simp)) ((HK2.out.setCell (p := ⟨p, 9, none⟩) (.inl (by simp)) _).setCell (p := ⟨p, 10, none⟩) (.inl (by simp)) _) _ (.slice none 0 0) rfl ?_ (.inr ⟨rfl, rfl⟩) rfl rfl
      simpa [pc] using (HB2.out.set_ 9 (.int .i64 (d.reads + 1))).set_ 10 (.int .i64 (d.writes + 1))
    · rw [if_neg h0]
      simp only
      rw [upd_self HD.out]
      simp [ptrIf, h0] at hv
      subst hv
      have HT0 := hid ht
      have hne : (t == 0) = false := by simp [h0]
      have hne2 : (t != 0) = true := by simp [h0]
      clear h0 ht
      go_enter Try.func47, Try.ntmps47
      go_wp2_with (go_at_call 73; refine (HT.out _ (Keeps.refl _ _)).mono ?_; rintro e w1 ⟨rfl, hk⟩)
      go_ret
      exact ⟨rfl, NDone.same hR.out hk⟩
set_option maxHeartbeats 1000000 in
theorem shut_any (n : Nat) (F : List Nat) (N : NS) (B k : Int) (w : World) (h : NRep pc w n F N) (hN : OkN N B) (hB : B ≤ 1099511627776) :
    Calls Try.prog 64 #[.pointer (some ⟨n, 0, none⟩), .int .i64 k] w fun e w' => e = .returned (.int .i64 (shutN N k).2) ∧ NDone pc w n F (shutN N k).1 w' := by
  have hR := hid h
  obtain ⟨own, ps, vc, vq, h⟩ := h
  have H := hid h
  unfold shutN
  rcases h.which k with hk | ⟨i, p, d, rfl, hp, hd⟩
  · rw [onConn_none hk]
    have HK := hid hk
    clear h hk hN
    go_enter Try.func64, Try.ntmps64
    go_wp2_with (go_at_call 74; refine (ours_out H.out _ HK.out).mono ?_; rintro e w1 ⟨rfl, hk⟩)
    go_ret
    exact ⟨rfl, NDone.same hR.out hk⟩
  · rw [onConn_some hd]
    obtain ⟨vi, vo, vt, hc⟩ := h.at_ i p d hp hd
    have hok := hN.cn d (List.mem_of_getElem? hd)
    have HD := hid hd
    have HP := hid hp
    have HC := hid hc
    have c5 := hc.1.cell 5
    simp [pc] at c5
    obtain ⟨t, ht⟩ : ∃ t, oursD d = t := ⟨_, rfl⟩
    obtain ⟨v, hv⟩ : ∃ v, ptrIf t p = v := ⟨_, rfl⟩
    have HT := hid (ours_W h hp hd ht hv)
    clear h hN hok hp hd hc
    unfold shutD
    rw [ht]
    by_cases h0 : t = 0
    · subst h0
      simp [ptrIf] at hv
      subst hv
      clear ht
      rw [if_pos rfl]
      simp only
      go_enter Try.func64, Try.ntmps64
      go_wp2_with (go_at_call 74; refine (HT.out _ (Keeps.refl _ _)).mono ?_; rintro e w1 ⟨rfl, hk⟩; have e5 := cell_keep hk (by simp) c5; have g5 := (HC.out.1.keeps hk (by simp)).frozen 5)
      go_ret
      refine ⟨rfl, NDone.after (H.out.keeps hk (by simp)) hk ?_⟩
      refine NAt.cells (H.out.keeps hk (by simp)) HP.out HD.out (HC.out.keeps hk (by simp)) ((Keeps.refl [p] w1).setCell (p := ⟨p, 5, none⟩) (.inl (by simp)) _) _ vi rfl ?_ (.inl ⟨rfl, rfl⟩) rfl rfl
      simpa [pc] using (HC.out.1.keeps hk (by simp)).set_ 5 (.bool true)
    · rw [if_neg h0]
      simp only
      rw [upd_self HD.out]
      simp [ptrIf, h0] at hv
      subst hv
      have HT0 := hid ht
      have hne : (t == 0) = false := by simp [h0]
      have hne2 : (t != 0) = true := by simp [h0]
      clear h0 ht
      go_enter Try.func64, Try.ntmps64
      go_wp2_with (go_at_call 74; refine (HT.out _ (Keeps.refl _ _)).mono ?_; rintro e w1 ⟨rfl, hk⟩)
      go_ret
      exact ⟨rfl, NDone.same hR.out hk⟩
set_option maxHeartbeats 1000000 in
theorem open_any (n : Nat) (F : List Nat) (N : NS) (B k : Int) (b : Int) (w : World) (h : NRep pc w n F N) (hN : OkN N B) (hB : B ≤ 1099511627776) :
    Calls Try.prog 40 #[.pointer (some ⟨n, 0, none⟩), .int .i64 k, .int .i64 b] w fun e w' => e = .returned (.int .i64 (openN N k b).2) ∧ NDone pc w n F (openN N k b).1 w' := by
  have hR := hid h
  obtain ⟨own, ps, vc, vq, h⟩ := h
  have H := hid h
  unfold openN
  by_cases hb0 : b < 0
  · rw [if_pos hb0]
    clear h hN
    go_enter Try.func40, Try.ntmps40
    go_wp2
    go_ret
    exact ⟨rfl, NDone.same hR.out (Keeps.refl _ _)⟩
  rw [if_neg hb0]
  have hb1 : 0 ≤ b := by omega
  have hb2 : decide (b < 0) = false := by simp; omega
  clear hb0
  rcases h.which k with hk | ⟨i, p, d, rfl, hp, hd⟩
  · rw [onConn_none hk]
    have HK := hid hk
    clear h hk hN
    go_enter Try.func40, Try.ntmps40
    go_wp2_with (go_at_call 73; refine (theirs_out H.out _ HK.out).mono ?_; rintro e w1 ⟨rfl, hk⟩)
    go_ret
    exact ⟨rfl, NDone.same hR.out hk⟩
  · rw [onConn_some hd]
    obtain ⟨vi, vo, vt, hc⟩ := h.at_ i p d hp hd
    have hok := hN.cn d (List.mem_of_getElem? hd)
    have hr0 := hok.w0
    have hr1 := hok.w1
    have hs0 := hok.s0
    have hs1 := hok.s1
    have hw2 : IntKind.i64.wrap (d.writes + 1) = d.writes + 1 := IntWalk.i64_in _ (by omega)
    have HD := hid hd
    have HP := hid hp
    have HC := hid hc
    have c8 := hc.1.cell 8
    have c10 := hc.1.cell 10
    simp [pc] at c8 c10
    obtain ⟨t, ht⟩ : ∃ t, theirsD d = t := ⟨_, rfl⟩
    obtain ⟨v, hv⟩ : ∃ v, ptrIf t p = v := ⟨_, rfl⟩
    have HT := hid (theirs_W h hp hd ht hv)
    clear h hN hok hp hd hc
    unfold openD
    rw [ht]
    by_cases h0 : t = 0
    · subst h0
      simp [ptrIf] at hv
      subst hv
      clear ht
      rw [if_pos rfl]
      simp only
      obtain ⟨m, hm⟩ : ∃ m, min b (1099511627776 - d.window) = m := ⟨_, rfl⟩
      have hm0 : 0 ≤ m := by omega
      have hm1 : m ≤ 1099511627776 := by omega
      have hmi : (m = b ∧ ¬ 1099511627776 - d.window < b) ∨ (m = 1099511627776 - d.window ∧ 1099511627776 - d.window < b) := by omega
      rw [hm]
      clear hm
      have hw3 : IntKind.i64.wrap (1099511627776 - d.window) = 1099511627776 - d.window := IntWalk.i64_in _ (by omega)
      rcases (by omega : 0 < b ∨ b = 0) with hb3 | rfl
      · rw [if_pos hb3]
        rcases hmi with ⟨hm2, hm3⟩ | ⟨hm2, hm3⟩
        all_goals
          have hw4 : IntKind.i64.wrap (d.window + m) = d.window + m := IntWalk.i64_in _ (by omega)
          subst hm2
          go_enter Try.func40, Try.ntmps40
          go_wp2_with (go_at_call 73; refine (HT.out _ (Keeps.refl _ _)).mono ?_; rintro e w1 ⟨rfl, hk⟩; have e8 := cell_keep hk (by simp) c8; have e10 := cell_keep hk (by simp) c10; have HK1 := hid hk; have g8 := (HC.out.1.keeps hk (by simp)).frozen 8; have g10 := (HC.out.1.keeps hk (by simp)).frozen 10; clear hk)
          go_region_law (fail)
          all_goals
            go_wp2_with fail
            go_ret
            refine ⟨rfl, NDone.after (H.out.keeps HK1.out (by simp)) HK1.out ?_⟩
            refine NAt.cells (H.out.keeps HK1.out (by simp)) HP.out HD.out (HC.out.keeps HK1.out (by simp)) (by repeat (first | exact Keeps.refl _ _ | refine Keeps.setCell ?_ (.inl (by simp)) _ | refine Keeps.drew ?_ | refine Keeps.drewN ?_ _)) _ vi rfl ?_ (.inl ⟨rfl, rfl⟩) rfl rfl
            try refine Blk.drew ?_
            simpa [pc] using ((HC.out.1.keeps HK1.out (by simp)).set_ 8 (.int .i64 _)).set_ 10 (.int .i64 (d.writes + 1))
      · have hm2 : m = 0 := by omega
        subst hm2
        rw [if_neg (by omega)]
        clear hmi
        have hw4 : IntKind.i64.wrap (d.window + 0) = d.window + 0 := IntWalk.i64_in _ (by omega)
        have hm3 : ¬ 1099511627776 - d.window < 0 := by omega
        go_enter Try.func40, Try.ntmps40
        go_wp2_with (go_at_call 73; refine (HT.out _ (Keeps.refl _ _)).mono ?_; rintro e w1 ⟨rfl, hk⟩; have e8 := cell_keep hk (by simp) c8; have e10 := cell_keep hk (by simp) c10; have HK1 := hid hk; have g8 := (HC.out.1.keeps hk (by simp)).frozen 8; have g10 := (HC.out.1.keeps hk (by simp)).frozen 10; clear hk)
        go_region_law (fail)
        all_goals
          go_wp2_with fail
          go_ret
          refine ⟨rfl, NDone.after (H.out.keeps HK1.out (by simp)) HK1.out ?_⟩
          refine NAt.cells (H.out.keeps HK1.out (by simp)) HP.out HD.out (HC.out.keeps HK1.out (by simp)) (by repeat (first | exact Keeps.refl _ _ | refine Keeps.setCell ?_ (.inl (by simp)) _ | refine Keeps.drew ?_ | refine Keeps.drewN ?_ _)) _ vi rfl ?_ (.inl ⟨rfl, rfl⟩) rfl rfl
          try refine Blk.drew ?_
          simpa [pc] using (HC.out.1.keeps HK1.out (by simp)).set_ 8 (.int .i64 _)
    · rw [if_neg h0]
      simp only
      rw [upd_self HD.out]
      simp [ptrIf, h0] at hv
      subst hv
      have HT0 := hid ht
      have hne : (t == 0) = false := by simp [h0]
      have hne2 : (t != 0) = true := by simp [h0]
      clear h0 ht
      go_enter Try.func40, Try.ntmps40
      go_wp2_with (go_at_call 73; refine (HT.out _ (Keeps.refl _ _)).mono ?_; rintro e w1 ⟨rfl, hk⟩)
      go_ret
      exact ⟨rfl, NDone.same hR.out hk⟩
end Go.Proofs.Ytkeffebcmajhmaa
