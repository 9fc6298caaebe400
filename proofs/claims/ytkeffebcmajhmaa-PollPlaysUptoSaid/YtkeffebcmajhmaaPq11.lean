/- The reference's net: New, theirs, ours, Half, Reset, Shut, Open by contract. -/
import Derived.Test.YtkeffebcmajhmaaPq10
namespace Go.Proofs.Ytkeffebcmajhmaa
open Go.RowKit
set_option linter.unusedVariables false
set_option linter.unusedSimpArgs false
theorem rblk_eq {w : World} {q : Nat} {T : TypeId} {a b : Array Value} (h : Blk w q T a) (e : a = b) : Blk w q T b := e ▸ h
def rc : Cfg where
  T := 167
  PT := 168
  NT := 108
  lay := fun d vi vo vt => #[.int .i64 d.peer, .bool d.waits, .bool d.opn, .bool d.taken, .bool d.broken, .bool d.halved, .bool d.shut, vi, vo, vt, .int .i64 d.window, .int .i64 d.reads, .int .i64 d.writes]
  nlay := fun N vc vq => #[.int .i64 N.backlog, vc, vq, .int .i64 N.fails, .bool N.stopped, .int .i64 N.marks]
theorem rnnew_bad (b : Int) (w : World) (h : b < 1 ∨ (1 ≤ b ∧ 64 < b)) :
    Calls Try.prog 58 #[.int .i64 b] w fun e w' => e = .returned (.tuple #[.pointer none, .int .i64 1]) ∧ w = w' := by
  rcases h with h | ⟨h0, h⟩
  all_goals
    go_enter Try.func58, Try.ntmps58
    go_wp2
    go_ret2
    exact ⟨rfl, rfl⟩
theorem rnnew_ok (b : Int) (w : World) (h1 : 1 ≤ b) (h2 : b ≤ 64) :
    Calls Try.prog 58 #[.int .i64 b] w fun e w' => e = .returned (.tuple #[.pointer (some ⟨w.heap.size, 0, none⟩), .int .i64 0]) ∧ NRep rc w' w.heap.size [w.heap.size] (newN b) ∧ Keeps [] w w' := by
  have h1' : ¬ b < 1 := by omega
  have h2' : ¬ 64 < b := by omega
  go_enter Try.func58, Try.ntmps58
  go_wp2
  go_ret2
  exact ⟨rfl, nrep_new rc w b _ rfl, (Keeps.refl [] w).alloc _⟩
section
variable {w w' : World} {n : Nat} {F : List Nat} {own : Nat → Nat} {ps : List Nat} {vc vq : Value} {N : NS}
theorem rtheirs_out (h : NAt rc w n F own ps vc vq N) (k : Int) (hk : k < 0 ∨ (0 ≤ k ∧ (N.cs.length : Int) ≤ k)) :
    Calls Try.prog 101 #[.pointer (some ⟨n, 0, none⟩), .int .i64 k] w fun e w' => e = .returned (.tuple #[.pointer none, .int .i64 2]) ∧ Keeps [] w w' := by
  have c1 := h.blk.cell 1
  simp [rc] at c1
  obtain ⟨A, cap, rfl, -⟩ := h.rc.form
  clear h
  rcases hk with hk | ⟨h0, hk⟩
  · have d0 : decide (k < 0) = true := by simpa using hk
    go_enter Try.func101, Try.ntmps101
    go_wp2_with fail
    go_ret2
    exact ⟨rfl, Keeps.refl _ _⟩
  · have d0 : decide (k < 0) = false := by simpa using h0
    have d1 : decide ((N.cs.length : Int) ≤ k) = true := by simpa using hk
    go_enter Try.func101, Try.ntmps101
    go_wp2_with fail
    go_ret2
    exact ⟨rfl, Keeps.refl _ _⟩
set_option maxHeartbeats 4000000 in
theorem rtheirs_in (h : NAt rc w n F own ps vc vq N) (k : Nat) (p : Nat) (d : Cn) (hp : ps[k]? = some p) (hd : N.cs[k]? = some d) :
    Calls Try.prog 101 #[.pointer (some ⟨n, 0, none⟩), .int .i64 k] w fun e w' => e = .returned (.tuple #[ptrIf (theirsD d) p, .int .i64 (theirsD d)]) ∧ Keeps [] w w' := by
  obtain ⟨p', b, off, cap, hp', rfl, hkl, hle, hcap, hcell, hbn, vi, vo, vt, hc⟩ := h.conn hd
  rw [hp] at hp'
  injection hp' with hp'
  subst hp'
  have n1 := h.blk.cell 1
  have c1 := hc.1.cell 1
  have c2 := hc.1.cell 2
  have c4 := hc.1.cell 4
  simp [rc] at n1 c1 c2 c4
  have hki : (k : Int) < N.cs.length := by omega
  have d0 : decide ((k : Int) < 0) = false := by simp
  have d1 : decide ((N.cs.length : Int) ≤ (k : Int)) = false := by simp; omega
  obtain ⟨d0, d1, d2, d3, d4, d5, d6, d7, d8, d9, d10, d11, d12⟩ := d
  simp only at c1 c2 c4
  clear h hp hd hc
  obtain ⟨v, hv⟩ : ∃ v, ptrIf (theirsD ⟨d0, d1, d2, d3, d4, d5, d6, d7, d8, d9, d10, d11, d12⟩) p = v := ⟨_, rfl⟩
  obtain ⟨e, he⟩ : ∃ e, theirsD ⟨d0, d1, d2, d3, d4, d5, d6, d7, d8, d9, d10, d11, d12⟩ = e := ⟨_, rfl⟩
  rw [hv, he]
  rw [he] at hv
  cases d0 <;> cases d1 <;> cases d2
  all_goals
    simp [theirsD] at he
    subst he
    simp [ptrIf] at hv
    subst hv
    go_enter Try.func101, Try.ntmps101
    go_wp2_with fail
    go_ret2
    exact ⟨rfl, Keeps.refl _ _⟩
theorem rours_out (h : NAt rc w n F own ps vc vq N) (k : Int) (hk : k < 0 ∨ (0 ≤ k ∧ (N.cs.length : Int) ≤ k)) :
    Calls Try.prog 103 #[.pointer (some ⟨n, 0, none⟩), .int .i64 k] w fun e w' => e = .returned (.tuple #[.pointer none, .int .i64 2]) ∧ Keeps [] w w' := by
  have c1 := h.blk.cell 1
  simp [rc] at c1
  obtain ⟨A, cap, rfl, -⟩ := h.rc.form
  clear h
  rcases hk with hk | ⟨h0, hk⟩
  · have d0 : decide (k < 0) = true := by simpa using hk
    go_enter Try.func103, Try.ntmps103
    go_wp2_with fail
    go_ret2
    exact ⟨rfl, Keeps.refl _ _⟩
  · have d0 : decide (k < 0) = false := by simpa using h0
    have d1 : decide ((N.cs.length : Int) ≤ k) = true := by simpa using hk
    go_enter Try.func103, Try.ntmps103
    go_wp2_with fail
    go_ret2
    exact ⟨rfl, Keeps.refl _ _⟩
set_option maxHeartbeats 4000000 in
theorem rours_in (h : NAt rc w n F own ps vc vq N) (k : Nat) (p : Nat) (d : Cn) (hp : ps[k]? = some p) (hd : N.cs[k]? = some d) :
    Calls Try.prog 103 #[.pointer (some ⟨n, 0, none⟩), .int .i64 k] w fun e w' => e = .returned (.tuple #[ptrIf (oursD d) p, .int .i64 (oursD d)]) ∧ Keeps [] w w' := by
  obtain ⟨p', b, off, cap, hp', rfl, hkl, hle, hcap, hcell, hbn, vi, vo, vt, hc⟩ := h.conn hd
  rw [hp] at hp'
  injection hp' with hp'
  subst hp'
  have n1 := h.blk.cell 1
  have c1 := hc.1.cell 1
  have c2 := hc.1.cell 2
  have c4 := hc.1.cell 4
  simp [rc] at n1 c1 c2 c4
  have hki : (k : Int) < N.cs.length := by omega
  have d0 : decide ((k : Int) < 0) = false := by simp
  have d1 : decide ((N.cs.length : Int) ≤ (k : Int)) = false := by simp; omega
  obtain ⟨d0, d1, d2, d3, d4, d5, d6, d7, d8, d9, d10, d11, d12⟩ := d
  simp only at c1 c2 c4
  clear h hp hd hc
  obtain ⟨v, hv⟩ : ∃ v, ptrIf (oursD ⟨d0, d1, d2, d3, d4, d5, d6, d7, d8, d9, d10, d11, d12⟩) p = v := ⟨_, rfl⟩
  obtain ⟨e, he⟩ : ∃ e, oursD ⟨d0, d1, d2, d3, d4, d5, d6, d7, d8, d9, d10, d11, d12⟩ = e := ⟨_, rfl⟩
  rw [hv, he]
  rw [he] at hv
  cases d0 <;> cases d1 <;> cases d2
  all_goals
    simp [oursD] at he
    subst he
    simp [ptrIf] at hv
    subst hv
    go_enter Try.func103, Try.ntmps103
    go_wp2_with fail
    go_ret2
    exact ⟨rfl, Keeps.refl _ _⟩
end
theorem rbreaks_any (p : Nat) (cs : Array Value) (w : World) (h : Blk w p 167 cs) (hs : cs.size = 13) :
    Calls Try.prog 102 #[.pointer (some ⟨p, 0, none⟩)] w fun e w' => e = .returned (.tuple #[]) ∧ w' = ((w.setCell ⟨p, 4, none⟩ (.bool true)).setCell ⟨p, 7, none⟩ (.slice none 0 0)).setCell ⟨p, 10, none⟩ (.int .i64 0) := by
  have c4 := h.cell 4
  have c7 := h.cell 7
  have c10 := h.cell 10
  rw [Array.getElem?_eq_getElem (by omega)] at c4 c7 c10
  have f4 := h.frozen 4
  have f7 := h.frozen 7
  have f10 := h.frozen 10
  clear h
  go_enter Try.func102, Try.ntmps102
  go_wp2_with fail
  go_end0
  exact ⟨rfl, rfl⟩
theorem rtheirs_W {w : World} {n : Nat} {F : List Nat} {own : Nat → Nat} {ps : List Nat} {vc vq v : Value} {N : NS} {i p : Nat} {d : Cn} {t : Int} (h : NAt rc w n F own ps vc vq N) (hp : ps[i]? = some p) (hd : N.cs[i]? = some d) (ht : theirsD d = t) (hv : ptrIf t p = v) :
    ∀ W, Keeps [] w W → Calls Try.prog 101 #[.pointer (some ⟨n, 0, none⟩), .int .i64 i] W fun e w' => e = .returned (.tuple #[v, .int .i64 t]) ∧ Keeps [] W w' := by
  intro W hW
  have := rtheirs_in (h.keeps hW (by simp)) i p d hp hd
  rw [ht, hv] at this
  exact this
theorem rours_W {w : World} {n : Nat} {F : List Nat} {own : Nat → Nat} {ps : List Nat} {vc vq v : Value} {N : NS} {i p : Nat} {d : Cn} {t : Int} (h : NAt rc w n F own ps vc vq N) (hp : ps[i]? = some p) (hd : N.cs[i]? = some d) (ht : oursD d = t) (hv : ptrIf t p = v) :
    ∀ W, Keeps [] w W → Calls Try.prog 103 #[.pointer (some ⟨n, 0, none⟩), .int .i64 i] W fun e w' => e = .returned (.tuple #[v, .int .i64 t]) ∧ Keeps [] W w' := by
  intro W hW
  have := rours_in (h.keeps hW (by simp)) i p d hp hd
  rw [ht, hv] at this
  exact this
set_option maxHeartbeats 1000000 in
theorem rhalf_any (n : Nat) (F : List Nat) (N : NS) (B k : Int) (w : World) (h : NRep rc w n F N) (hN : OkN N B) (hB : B ≤ 1099511627776) :
    Calls Try.prog 84 #[.pointer (some ⟨n, 0, none⟩), .int .i64 k] w fun e w' => e = .returned (.int .i64 (halfN N k).2) ∧ NDone rc w n F (halfN N k).1 w' := by
  have hR := hid h
  obtain ⟨own, ps, vc, vq, h⟩ := h
  have H := hid h
  unfold halfN
  rcases h.which k with hk | ⟨i, p, d, rfl, hp, hd⟩
  · rw [onConn_none hk]
    have HK := hid hk
    clear h hk hN
    go_enter Try.func84, Try.ntmps84
    go_wp2_with (go_at_call 101; refine (rtheirs_out H.out _ HK.out).mono ?_; rintro e w1 ⟨rfl, hk⟩)
    go_ret
    exact ⟨rfl, NDone.same hR.out hk⟩
  · rw [onConn_some hd]
    obtain ⟨vi, vo, vt, hc⟩ := h.at_ i p d hp hd
    have hok := hN.cn d (List.mem_of_getElem? hd)
    have hr0 := hok.r0
    have hr1 := hok.r1
    have HD := hid hd
    have HP := hid hp
    have HC := hid hc
    have hT := fun w => rtheirs_in (w := w) (n := n) (F := F) (own := own) (ps := ps) (vc := vc) (vq := vq) (N := N)
    have hw1 : IntKind.i64.wrap (d.reads + 1) = d.reads + 1 := IntWalk.i64_in _ (by omega)
    have c4 := hc.1.cell 5
    have c9 := hc.1.cell 11
    have f4 := hc.1.frozen 5
    have f9 := hc.1.frozen 11
    simp [rc] at c4 c9
    obtain ⟨t, ht⟩ : ∃ t, theirsD d = t := ⟨_, rfl⟩
    obtain ⟨v, hv⟩ : ∃ v, ptrIf t p = v := ⟨_, rfl⟩
    have HT : Hid (∀ W, Keeps [] w W → Calls Try.prog 101 #[.pointer (some ⟨n, 0, none⟩), .int .i64 i] W fun e w' => e = .returned (.tuple #[v, .int .i64 t]) ∧ Keeps [] W w') := by
      refine hid fun W hW => ?_
      have := rtheirs_in (H.out.keeps hW (by simp)) i p d HP.out HD.out
      rw [ht, hv] at this
      exact this
    clear h hN hok hp hd hc hT
    unfold halfD
    rw [ht]
    by_cases h0 : t = 0
    · subst h0
      simp [ptrIf] at hv
      subst hv
      clear ht
      obtain ⟨hv, hhv⟩ : ∃ b, d.halved = b := ⟨_, rfl⟩
      rw [hhv] at c4
      cases hv with
      | true =>
        rw [if_pos rfl, if_pos hhv]
        simp only
        have HHV := hid hhv
        clear hhv
        go_enter Try.func84, Try.ntmps84
        go_wp2_with (go_at_call 101; refine (HT.out _ (Keeps.refl _ _)).mono ?_; rintro e w1 ⟨rfl, hk⟩; have e4 := cell_keep hk (by simp) c4; have g4 := (HC.out.1.keeps hk (by simp)).frozen 5)
        go_ret
        refine ⟨rfl, NDone.after (H.out.keeps hk (by simp)) hk ?_⟩
        refine NAt.cells (H.out.keeps hk (by simp)) HP.out HD.out (HC.out.keeps hk (by simp)) ((Keeps.refl [p] w1).setCell (p := ⟨p, 5, none⟩) (.inl (by simp)) _) d vi rfl ?_ (.inl ⟨rfl, rfl⟩) rfl rfl
        exact rblk_eq ((HC.out.1.keeps hk (by simp)).set_ 5 (.bool true)) (by simp [rc, HHV.out])
      | false =>
        rw [if_pos rfl, if_neg (by rw [hhv]; simp)]
        simp only
        have HHV := hid hhv
        clear hhv
        go_enter Try.func84, Try.ntmps84
        go_wp2_with (go_at_call 101; refine (HT.out _ (Keeps.refl _ _)).mono ?_; rintro e w1 ⟨rfl, hk⟩; have e4 := cell_keep hk (by simp) c4; have e9 := cell_keep hk (by simp) c9; have g4 := (HC.out.1.keeps hk (by simp)).frozen 5; have g9 := (HC.out.1.keeps hk (by simp)).frozen 11)
        go_ret
        refine ⟨rfl, NDone.after (H.out.keeps hk (by simp)) hk ?_⟩
        refine NAt.cells (H.out.keeps hk (by simp)) HP.out HD.out (HC.out.keeps hk (by simp)) (((Keeps.refl [p] w1).setCell (p := ⟨p, 11, none⟩) (.inl (by simp)) _).setCell (p := ⟨p, 5, none⟩) (.inl (by simp)) _) _ vi rfl ?_ (.inl ⟨rfl, rfl⟩) rfl rfl
        simpa [rc] using ((HC.out.1.keeps hk (by simp)).set_ 11 (.int .i64 (d.reads + 1))).set_ 5 (.bool true)
    · rw [if_neg h0]
      simp only
      rw [upd_self HD.out]
      simp [ptrIf, h0] at hv
      subst hv
      have HT0 := hid ht
      have hne : (t == 0) = false := by simp [h0]
      have hne2 : (t != 0) = true := by simp [h0]
      clear h0 ht
      go_enter Try.func84, Try.ntmps84
      go_wp2_with (go_at_call 101; refine (HT.out _ (Keeps.refl _ _)).mono ?_; rintro e w1 ⟨rfl, hk⟩)
      go_ret
      exact ⟨rfl, NDone.same hR.out hk⟩
set_option maxHeartbeats 1000000 in
theorem rreset_any (n : Nat) (F : List Nat) (N : NS) (B k : Int) (w : World) (h : NRep rc w n F N) (hN : OkN N B) (hB : B ≤ 1099511627776) :
    Calls Try.prog 85 #[.pointer (some ⟨n, 0, none⟩), .int .i64 k] w fun e w' => e = .returned (.int .i64 (resetN N k).2) ∧ NDone rc w n F (resetN N k).1 w' := by
  have hR := hid h
  obtain ⟨own, ps, vc, vq, h⟩ := h
  have H := hid h
  unfold resetN
  rcases h.which k with hk | ⟨i, p, d, rfl, hp, hd⟩
  · rw [onConn_none hk]
    have HK := hid hk
    clear h hk hN
    go_enter Try.func85, Try.ntmps85
    go_wp2_with (go_at_call 101; refine (rtheirs_out H.out _ HK.out).mono ?_; rintro e w1 ⟨rfl, hk⟩)
    go_ret
    exact ⟨rfl, NDone.same hR.out hk⟩
  · rw [onConn_some hd]
    obtain ⟨vi, vo, vt, hc⟩ := h.at_ i p d hp hd
    have hok := hN.cn d (List.mem_of_getElem? hd)
    have hr0 := hok.r0
    have hr1 := hok.r1
    have hs0 := hok.s0
    have hs1 := hok.s1
    have hw1 : IntKind.i64.wrap (d.reads + 1) = d.reads + 1 := IntWalk.i64_in _ (by omega)
    have hw2 : IntKind.i64.wrap (d.writes + 1) = d.writes + 1 := IntWalk.i64_in _ (by omega)
    have HD := hid hd
    have HP := hid hp
    have HC := hid hc
    have c9 := hc.1.cell 11
    have c10 := hc.1.cell 12
    simp [rc] at c9 c10
    obtain ⟨t, ht⟩ : ∃ t, theirsD d = t := ⟨_, rfl⟩
    obtain ⟨v, hv⟩ : ∃ v, ptrIf t p = v := ⟨_, rfl⟩
    have HT := hid (rtheirs_W h hp hd ht hv)
    clear h hN hok hp hd hc
    unfold resetD
    rw [ht]
    by_cases h0 : t = 0
    · subst h0
      simp [ptrIf] at hv
      subst hv
      clear ht
      rw [if_pos rfl]
      simp only
      go_enter Try.func85, Try.ntmps85
      go_wp2_with (first
        | (go_at_call 101; refine (HT.out _ (Keeps.refl _ _)).mono ?_; rintro e w1 ⟨rfl, hk⟩; have HK1 := hid hk; have e9 := cell_keep hk (by simp) c9; have e10 := cell_keep hk (by simp) c10; clear hk)
        | (go_at_call 102; refine (rbreaks_any p _ _ (HC.out.1.keeps HK1.out (by simp)) (by simp [rc])).mono ?_; rintro e w2 ⟨rfl, hw2⟩; have hb2 := (((HC.out.1.keeps HK1.out (by simp)).set_ 4 (.bool true)).set_ 7 (.slice none 0 0)).set_ 10 (.int .i64 0); have hk2 : Keeps [p] w1 w2 := (by rw [hw2]; exact (((Keeps.refl [p] w1).setCell (p := ⟨p, 4, none⟩) (.inl (by simp)) _).setCell (p := ⟨p, 7, none⟩) (.inl (by simp)) _).setCell (p := ⟨p, 10, none⟩) (.inl (by simp)) _); rw [← hw2] at hb2; have g9 := hb2.cell 11; have g10 := hb2.cell 12; have k9 := hb2.frozen 11; have k10 := hb2.frozen 12; simp [rc] at g9 g10; have HB2 := hid hb2; have HK2 := hid hk2; clear hb2 hk2 hw2))
      go_ret
      refine ⟨rfl, NDone.after (H.out.keeps HK1.out (by simp)) HK1.out ?_⟩
      refine NAt.cells (H.out.keeps HK1.out (by simp)) HP.out HD.out (HC.out.keeps HK1.out (by simp)) ((HK2.out.setCell (p := ⟨p, 11, none⟩) (.inl (by simp)) _).setCell (p := ⟨p, 12, none⟩) (.inl (by simp)) _) _ (.slice none 0 0) rfl ?_ (.inr ⟨rfl, rfl⟩) rfl rfl
      simpa [rc] using (HB2.out.set_ 11 (.int .i64 (d.reads + 1))).set_ 12 (.int .i64 (d.writes + 1))
    · rw [if_neg h0]
      simp only
      rw [upd_self HD.out]
      simp [ptrIf, h0] at hv
      subst hv
      have HT0 := hid ht
      have hne : (t == 0) = false := by simp [h0]
      have hne2 : (t != 0) = true := by simp [h0]
      clear h0 ht
      go_enter Try.func85, Try.ntmps85
      go_wp2_with (go_at_call 101; refine (HT.out _ (Keeps.refl _ _)).mono ?_; rintro e w1 ⟨rfl, hk⟩)
      go_ret
      exact ⟨rfl, NDone.same hR.out hk⟩
set_option maxHeartbeats 1000000 in
theorem rshut_any (n : Nat) (F : List Nat) (N : NS) (B k : Int) (w : World) (h : NRep rc w n F N) (hN : OkN N B) (hB : B ≤ 1099511627776) :
    Calls Try.prog 90 #[.pointer (some ⟨n, 0, none⟩), .int .i64 k] w fun e w' => e = .returned (.int .i64 (shutN N k).2) ∧ NDone rc w n F (shutN N k).1 w' := by
  have hR := hid h
  obtain ⟨own, ps, vc, vq, h⟩ := h
  have H := hid h
  unfold shutN
  rcases h.which k with hk | ⟨i, p, d, rfl, hp, hd⟩
  · rw [onConn_none hk]
    have HK := hid hk
    clear h hk hN
    go_enter Try.func90, Try.ntmps90
    go_wp2_with (go_at_call 103; refine (rours_out H.out _ HK.out).mono ?_; rintro e w1 ⟨rfl, hk⟩)
    go_ret
    exact ⟨rfl, NDone.same hR.out hk⟩
  · rw [onConn_some hd]
    obtain ⟨vi, vo, vt, hc⟩ := h.at_ i p d hp hd
    have hok := hN.cn d (List.mem_of_getElem? hd)
    have HD := hid hd
    have HP := hid hp
    have HC := hid hc
    have c5 := hc.1.cell 6
    simp [rc] at c5
    obtain ⟨t, ht⟩ : ∃ t, oursD d = t := ⟨_, rfl⟩
    obtain ⟨v, hv⟩ : ∃ v, ptrIf t p = v := ⟨_, rfl⟩
    have HT := hid (rours_W h hp hd ht hv)
    clear h hN hok hp hd hc
    unfold shutD
    rw [ht]
    by_cases h0 : t = 0
    · subst h0
      simp [ptrIf] at hv
      subst hv
      clear ht
      rw [if_pos rfl]
      simp only
      go_enter Try.func90, Try.ntmps90
      go_wp2_with (go_at_call 103; refine (HT.out _ (Keeps.refl _ _)).mono ?_; rintro e w1 ⟨rfl, hk⟩; have e5 := cell_keep hk (by simp) c5; have g5 := (HC.out.1.keeps hk (by simp)).frozen 6)
      go_ret
      refine ⟨rfl, NDone.after (H.out.keeps hk (by simp)) hk ?_⟩
      refine NAt.cells (H.out.keeps hk (by simp)) HP.out HD.out (HC.out.keeps hk (by simp)) ((Keeps.refl [p] w1).setCell (p := ⟨p, 6, none⟩) (.inl (by simp)) _) _ vi rfl ?_ (.inl ⟨rfl, rfl⟩) rfl rfl
      simpa [rc] using (HC.out.1.keeps hk (by simp)).set_ 6 (.bool true)
    · rw [if_neg h0]
      simp only
      rw [upd_self HD.out]
      simp [ptrIf, h0] at hv
      subst hv
      have HT0 := hid ht
      have hne : (t == 0) = false := by simp [h0]
      have hne2 : (t != 0) = true := by simp [h0]
      clear h0 ht
      go_enter Try.func90, Try.ntmps90
      go_wp2_with (go_at_call 103; refine (HT.out _ (Keeps.refl _ _)).mono ?_; rintro e w1 ⟨rfl, hk⟩)
      go_ret
      exact ⟨rfl, NDone.same hR.out hk⟩
set_option maxHeartbeats 1000000 in
theorem ropen_any (n : Nat) (F : List Nat) (N : NS) (B k : Int) (b : Int) (w : World) (h : NRep rc w n F N) (hN : OkN N B) (hB : B ≤ 1099511627776) :
    Calls Try.prog 86 #[.pointer (some ⟨n, 0, none⟩), .int .i64 k, .int .i64 b] w fun e w' => e = .returned (.int .i64 (openN N k b).2) ∧ NDone rc w n F (openN N k b).1 w' := by
  have hR := hid h
  obtain ⟨own, ps, vc, vq, h⟩ := h
  have H := hid h
  unfold openN
  by_cases hb0 : b < 0
  · rw [if_pos hb0]
    clear h hN
    go_enter Try.func86, Try.ntmps86
    go_wp2
    go_ret
    exact ⟨rfl, NDone.same hR.out (Keeps.refl _ _)⟩
  rw [if_neg hb0]
  have hb1 : 0 ≤ b := by omega
  have hb2 : decide (b < 0) = false := by simp; omega
  clear hb0
  rcases h.which k with hk | ⟨i, p, d, rfl, hp, hd⟩
  · rw [onConn_none hk]
    have HK := hid hk
    clear h hk hN
    go_enter Try.func86, Try.ntmps86
    go_wp2_with (go_at_call 101; refine (rtheirs_out H.out _ HK.out).mono ?_; rintro e w1 ⟨rfl, hk⟩)
    go_ret
    exact ⟨rfl, NDone.same hR.out hk⟩
  · rw [onConn_some hd]
    obtain ⟨vi, vo, vt, hc⟩ := h.at_ i p d hp hd
    have hok := hN.cn d (List.mem_of_getElem? hd)
    have hr0 := hok.w0
    have hr1 := hok.w1
    have hs0 := hok.s0
    have hs1 := hok.s1
    have hw2 : IntKind.i64.wrap (d.writes + 1) = d.writes + 1 := IntWalk.i64_in _ (by omega)
    have HD := hid hd
    have HP := hid hp
    have HC := hid hc
    have c8 := hc.1.cell 10
    have c10 := hc.1.cell 12
    simp [rc] at c8 c10
    obtain ⟨t, ht⟩ : ∃ t, theirsD d = t := ⟨_, rfl⟩
    obtain ⟨v, hv⟩ : ∃ v, ptrIf t p = v := ⟨_, rfl⟩
    have HT := hid (rtheirs_W h hp hd ht hv)
    clear h hN hok hp hd hc
    unfold openD
    rw [ht]
    by_cases h0 : t = 0
    · subst h0
      simp [ptrIf] at hv
      subst hv
      clear ht
      rw [if_pos rfl]
      simp only
      obtain ⟨m, hm⟩ : ∃ m, min b (1099511627776 - d.window) = m := ⟨_, rfl⟩
      have hm0 : 0 ≤ m := by omega
      have hm1 : m ≤ 1099511627776 := by omega
      have hmi : (m = b ∧ ¬ 1099511627776 - d.window < b) ∨ (m = 1099511627776 - d.window ∧ 1099511627776 - d.window < b) := by omega
      rw [hm]
      clear hm
      have hw3 : IntKind.i64.wrap (1099511627776 - d.window) = 1099511627776 - d.window := IntWalk.i64_in _ (by omega)
      rcases (by omega : 0 < b ∨ b = 0) with hb3 | rfl
      · rw [if_pos hb3]
        rcases hmi with ⟨hm2, hm3⟩ | ⟨hm2, hm3⟩
        all_goals
          have hw4 : IntKind.i64.wrap (d.window + m) = d.window + m := IntWalk.i64_in _ (by omega)
          subst hm2
          go_enter Try.func86, Try.ntmps86
          go_wp2_with (go_at_call 101; refine (HT.out _ (Keeps.refl _ _)).mono ?_; rintro e w1 ⟨rfl, hk⟩; have e8 := cell_keep hk (by simp) c8; have e10 := cell_keep hk (by simp) c10; have HK1 := hid hk; have g8 := (HC.out.1.keeps hk (by simp)).frozen 10; have g10 := (HC.out.1.keeps hk (by simp)).frozen 12; clear hk)
          go_region_law (fail)
          all_goals
            go_wp2_with fail
            go_ret
            refine ⟨rfl, NDone.after (H.out.keeps HK1.out (by simp)) HK1.out ?_⟩
            refine NAt.cells (H.out.keeps HK1.out (by simp)) HP.out HD.out (HC.out.keeps HK1.out (by simp)) (by repeat (first | exact Keeps.refl _ _ | refine Keeps.setCell ?_ (.inl (by simp)) _ | refine Keeps.drew ?_ | refine Keeps.drewN ?_ _)) _ vi rfl ?_ (.inl ⟨rfl, rfl⟩) rfl rfl
            try refine Blk.drew ?_
            simpa [rc] using ((HC.out.1.keeps HK1.out (by simp)).set_ 10 (.int .i64 _)).set_ 12 (.int .i64 (d.writes + 1))
      · have hm2 : m = 0 := by omega
        subst hm2
        rw [if_neg (by omega)]
        clear hmi
        have hw4 : IntKind.i64.wrap (d.window + 0) = d.window + 0 := IntWalk.i64_in _ (by omega)
        have hm3 : ¬ 1099511627776 - d.window < 0 := by omega
        go_enter Try.func86, Try.ntmps86
        go_wp2_with (go_at_call 101; refine (HT.out _ (Keeps.refl _ _)).mono ?_; rintro e w1 ⟨rfl, hk⟩; have e8 := cell_keep hk (by simp) c8; have e10 := cell_keep hk (by simp) c10; have HK1 := hid hk; have g8 := (HC.out.1.keeps hk (by simp)).frozen 10; have g10 := (HC.out.1.keeps hk (by simp)).frozen 12; clear hk)
        go_region_law (fail)
        all_goals
          go_wp2_with fail
          go_ret
          refine ⟨rfl, NDone.after (H.out.keeps HK1.out (by simp)) HK1.out ?_⟩
          refine NAt.cells (H.out.keeps HK1.out (by simp)) HP.out HD.out (HC.out.keeps HK1.out (by simp)) (by repeat (first | exact Keeps.refl _ _ | refine Keeps.setCell ?_ (.inl (by simp)) _ | refine Keeps.drew ?_ | refine Keeps.drewN ?_ _)) _ vi rfl ?_ (.inl ⟨rfl, rfl⟩) rfl rfl
          try refine Blk.drew ?_
          simpa [rc] using (HC.out.1.keeps HK1.out (by simp)).set_ 10 (.int .i64 _)
    · rw [if_neg h0]
      simp only
      rw [upd_self HD.out]
      simp [ptrIf, h0] at hv
      subst hv
      have HT0 := hid ht
      have hne : (t == 0) = false := by simp [h0]
      have hne2 : (t != 0) = true := by simp [h0]
      clear h0 ht
      go_enter Try.func86, Try.ntmps86
      go_wp2_with (go_at_call 101; refine (HT.out _ (Keeps.refl _ _)).mono ?_; rintro e w1 ⟨rfl, hk⟩)
      go_ret
      exact ⟨rfl, NDone.same hR.out hk⟩
end Go.Proofs.Ytkeffebcmajhmaa
/- The reference's net: Marks, Bytes, Got, Ready, Len, State by contract. -/
namespace Go.Proofs.Ytkeffebcmajhmaa
open Go.RowKit
set_option linter.unusedVariables false
set_option linter.unusedSimpArgs false
/-- a number is no connection's. -/
theorem rno_cases {c : Cfg} {w : World} {n : Nat} {F : List Nat} {own : Nat → Nat} {ps : List Nat} {vc vq : Value} {N : NS} (h : NAt c w n F own ps vc vq N) {k : Int} (hk : k < 0 ∨ (0 ≤ k ∧ (N.cs.length : Int) ≤ k)) : decide (k < 0) = true ∨ (decide (k < 0) = false ∧ decide ((N.cs.length : Int) ≤ k) = true) := by
  rcases hk with h | ⟨h1, h2⟩
  · exact .inl (by simpa using h)
  · exact .inr ⟨by simpa using h1, by simpa using h2⟩
set_option maxHeartbeats 4000000 in
theorem rmarks_any (n : Nat) (F : List Nat) (N : NS) (k : Int) (w : World) (h : NRep rc w n F N) :
    Calls Try.prog 94 #[.pointer (some ⟨n, 0, none⟩), .int .i64 k] w fun e w' => e = .returned (.tuple #[.int .i64 (marksN N k).1, .int .i64 (marksN N k).2]) ∧ Keeps [] w w' := by
  obtain ⟨own, ps, vc, vq, h⟩ := h
  have n1 := h.blk.cell 1
  have n5 := h.blk.cell 5
  simp [rc] at n1 n5
  unfold marksN
  by_cases hm1 : k = -1
  · subst hm1
    rw [if_pos rfl]
    clear h
    simp only
    go_enter Try.func94, Try.ntmps94
    go_wp2
    go_ret2
    exact ⟨rfl, Keeps.refl _ _⟩
  · rw [if_neg hm1]
    have hmb : (k == -1) = false := by simpa using hm1
    clear hm1
    rcases h.which k with hk | ⟨i, p, d, rfl, hp, hd⟩
    · rw [cnAt_none hk]
      obtain ⟨A, cap, rfl, -⟩ := h.rc.form
      have hk := rno_cases h hk
      clear h
      simp only
      rcases hk with d0 | ⟨d0, d1⟩
      all_goals
        go_enter Try.func94, Try.ntmps94
        go_wp2
        go_ret2
        exact ⟨rfl, Keeps.refl _ _⟩
    · rw [cnAt_some hd]
      obtain ⟨p, b, off, cap, -, rfl, hkl, hle, hcap, hcell, hbn, vi, vo, vt, hc⟩ := h.conn hd
      have c11 := hc.1.cell 11
      have c12 := hc.1.cell 12
      simp [rc] at c11 c12
      have hki : (i : Int) < N.cs.length := by omega
      have d0 : decide ((i : Int) < 0) = false := by simp
      have d1 : decide ((N.cs.length : Int) ≤ (i : Int)) = false := by simp; omega
      clear h hc hp hd
      simp only
      go_enter Try.func94, Try.ntmps94
      go_wp2_with fail
      go_quiet (fail)
      go_wp2_with fail
      go_ret2
      exact ⟨rfl, (Keeps.refl [] w).drewN _⟩
/-- a row that is read, and nobody's to keep. -/
def RRow (w : World) (l : List Int) (v : Value) (w' : World) : Prop := Row w' 5 1 v l.length (bytesV l) ∧ Keeps [] w w'
set_option maxHeartbeats 4000000 in
theorem rbytes_any (n : Nat) (F : List Nat) (N : NS) (k : Int) (w : World) (h : NRep rc w n F N) :
    Calls Try.prog 97 #[.pointer (some ⟨n, 0, none⟩), .int .i64 k] w fun e w' => ∃ v, e = .returned v ∧ RRow w (takenN N k) v w' := by
  obtain ⟨own, ps, vc, vq, h⟩ := h
  have n1 := h.blk.cell 1
  simp [rc] at n1
  unfold takenN
  rcases h.which k with hk | ⟨i, p, d, rfl, hp, hd⟩
  · rw [cnAt_none hk]
    obtain ⟨A, cap, rfl, -⟩ := h.rc.form
    have hk := rno_cases h hk
    clear h
    simp only
    rcases hk with d0 | ⟨d0, d1⟩
    all_goals
      go_enter Try.func97, Try.ntmps97
      go_wp2
      go_ret
      exact ⟨_, rfl, Row.nil _ _ _, Keeps.refl _ _⟩
  · rw [cnAt_some hd]
    obtain ⟨p, b, off, cap, -, rfl, hkl, hle, hcap, hcell, hbn, vi, vo, vt, hc⟩ := h.conn hd
    have c9 := hc.1.cell 9
    simp [rc] at c9
    have hki : (i : Int) < N.cs.length := by omega
    have d0 : decide ((i : Int) < 0) = false := by simp
    have d1 : decide ((N.cs.length : Int) ≤ (i : Int)) = false := by simp; omega
    have HR := hid hc.2.2.2.2.1
    clear h hc hp hd
    simp only
    go_enter Try.func97, Try.ntmps97
    go_wp2_with fail
    go_ret
    exact ⟨_, rfl, HR.out, Keeps.refl _ _⟩
set_option maxHeartbeats 4000000 in
theorem rgot_any (n : Nat) (F : List Nat) (N : NS) (k : Int) (w : World) (h : NRep rc w n F N) :
    Calls Try.prog 95 #[.pointer (some ⟨n, 0, none⟩), .int .i64 k] w fun e w' => ∃ v, e = .returned (.tuple #[v, .bool (gotN N k).2]) ∧ RRow w (gotN N k).1 v w' := by
  obtain ⟨own, ps, vc, vq, h⟩ := h
  have n1 := h.blk.cell 1
  simp [rc] at n1
  unfold gotN
  rcases h.which k with hk | ⟨i, p, d, rfl, hp, hd⟩
  · rw [cnAt_none hk]
    obtain ⟨A, cap, rfl, -⟩ := h.rc.form
    have hk := rno_cases h hk
    clear h
    simp only
    rcases hk with d0 | ⟨d0, d1⟩
    all_goals
      go_enter Try.func95, Try.ntmps95
      go_wp2
      go_ret2
      exact ⟨_, rfl, Row.nil _ _ _, Keeps.refl _ _⟩
  · rw [cnAt_some hd]
    obtain ⟨p, b, off, cap, -, rfl, hkl, hle, hcap, hcell, hbn, vi, vo, vt, hc⟩ := h.conn hd
    have c2 := hc.1.cell 2
    have c3 := hc.1.cell 3
    have c4 := hc.1.cell 4
    have c6 := hc.1.cell 6
    have c8 := hc.1.cell 8
    simp [rc] at c2 c3 c4 c6 c8
    have hki : (i : Int) < N.cs.length := by omega
    have d0 : decide ((i : Int) < 0) = false := by simp
    have d1 : decide ((N.cs.length : Int) ≤ (i : Int)) = false := by simp; omega
    have HR := hid hc.2.2.2.1.1
    obtain ⟨b2, hb2⟩ : ∃ b, d.opn = b := ⟨_, rfl⟩
    obtain ⟨b3, hb3⟩ : ∃ b, d.taken = b := ⟨_, rfl⟩
    obtain ⟨b4, hb4⟩ : ∃ b, d.broken = b := ⟨_, rfl⟩
    obtain ⟨b6, hb6⟩ : ∃ b, d.shut = b := ⟨_, rfl⟩
    rw [hb2] at c2
    rw [hb3] at c3
    rw [hb4] at c4
    rw [hb6] at c6
    simp only [hb2, hb3, hb4, hb6]
    clear h hc hp hd hb2 hb3 hb4 hb6
    cases b6 <;> cases b4 <;> cases b3 <;> cases b2
    all_goals
      go_enter Try.func95, Try.ntmps95
      go_wp2_with fail
      go_quiet (fail)
      go_wp2_with fail
      go_ret2
      exact ⟨_, rfl, HR.out, (Keeps.refl [] w).drewN _⟩
end Go.Proofs.Ytkeffebcmajhmaa
/- The reference's net: Ready, Len, State by contract. -/
namespace Go.Proofs.Ytkeffebcmajhmaa
open Go.RowKit
set_option linter.unusedVariables false
set_option linter.unusedSimpArgs false
set_option maxHeartbeats 8000000 in
theorem rready_any (n : Nat) (F : List Nat) (N : NS) (k : Int) (w : World) (h : NRep rc w n F N) :
    Calls Try.prog 93 #[.pointer (some ⟨n, 0, none⟩), .int .i64 k] w fun e w' => e = .returned (.tuple #[.bool (readyN N k).1, .bool (readyN N k).2]) ∧ Keeps [] w w' := by
  obtain ⟨own, ps, vc, vq, h⟩ := h
  have n1 := h.blk.cell 1
  have n2 := h.blk.cell 2
  simp [rc] at n1 n2
  unfold readyN
  by_cases hm1 : k = -1
  · subst hm1
    rw [if_pos rfl]
    obtain ⟨A, cap, rfl, -⟩ := h.rq.form
    clear h
    simp only
    obtain ⟨m, hm⟩ : ∃ m, N.queue.length = m := ⟨_, rfl⟩
    rw [hm] at n2 ⊢
    clear hm
    rcases (by omega : 0 < m ∨ m = 0) with hm | rfl
    · have e1 : decide (0 < m) = true := by simpa using hm
      rw [e1]
      clear e1
      go_enter Try.func93, Try.ntmps93
      go_wp2
      go_ret2
      exact ⟨rfl, Keeps.refl _ _⟩
    · rw [show decide (0 < 0) = false from rfl]
      go_enter Try.func93, Try.ntmps93
      go_wp2
      go_ret2
      exact ⟨rfl, Keeps.refl _ _⟩
  · rw [if_neg hm1]
    have hmb : (k == -1) = false := by simpa using hm1
    clear hm1
    rcases h.which k with hk | ⟨i, p, d, rfl, hp, hd⟩
    · rw [cnAt_none hk]
      obtain ⟨A, cap, rfl, -⟩ := h.rc.form
      have hk := rno_cases h hk
      clear h
      simp only
      rcases hk with d0 | ⟨d0, d1⟩
      all_goals
        go_enter Try.func93, Try.ntmps93
        go_wp2
        go_ret2
        exact ⟨rfl, Keeps.refl _ _⟩
    · rw [cnAt_some hd]
      obtain ⟨p, b, off, cap, -, rfl, hkl, hle, hcap, hcell, hbn, vi, vo, vt, hc⟩ := h.conn hd
      have c2 := hc.1.cell 2
      have c4 := hc.1.cell 4
      have c5 := hc.1.cell 5
      have c6 := hc.1.cell 6
      have c7 := hc.1.cell 7
      have c10 := hc.1.cell 10
      simp [rc] at c2 c4 c5 c6 c7 c10
      have hki : (i : Int) < N.cs.length := by omega
      have d0 : decide ((i : Int) < 0) = false := by simp
      have d1 : decide ((N.cs.length : Int) ≤ (i : Int)) = false := by simp; omega
      obtain ⟨A, icap, rfl, -⟩ := hc.2.2.1.1.form
      obtain ⟨b2, hb2⟩ : ∃ b, d.opn = b := ⟨_, rfl⟩
      obtain ⟨b4, hb4⟩ : ∃ b, d.broken = b := ⟨_, rfl⟩
      obtain ⟨b5, hb5⟩ : ∃ b, d.halved = b := ⟨_, rfl⟩
      obtain ⟨b6, hb6⟩ : ∃ b, d.shut = b := ⟨_, rfl⟩
      obtain ⟨m, hm⟩ : ∃ m, d.inn.length = m := ⟨_, rfl⟩
      obtain ⟨u, hu⟩ : ∃ u, d.window = u := ⟨_, rfl⟩
      rw [hb2] at c2
      rw [hb4] at c4
      rw [hb5] at c5
      rw [hb6] at c6
      rw [hm] at c7
      rw [hu] at c10
      simp only [hb2, hb4, hb5, hb6, hm, hu]
      clear h hc hp hd hb2 hb4 hb5 hb6 hm hu
      cases b2 with
      | false =>
        rw [if_neg (by simp)]
        go_enter Try.func93, Try.ntmps93
        go_wp2_with fail
        go_ret2
        exact ⟨rfl, Keeps.refl _ _⟩
      | true =>
        rw [if_pos rfl]
        simp only
        obtain ⟨x, hx⟩ : ∃ x, decide (0 < m) = x := ⟨_, rfl⟩
        obtain ⟨y, hy⟩ : ∃ y, decide (0 < u) = y := ⟨_, rfl⟩
        have hx' : decide ((0 : Int) < (m : Int)) = x := by rw [← hx]; simp
        rw [hx, hy]
        go_enter Try.func93, Try.ntmps93
        go_upto_region 6 with (fail)
        cases x <;> cases y <;> cases b4 <;> cases b5 <;> cases b6
        all_goals
          go_quiet (fail)
          go_wp2_with fail
          go_ret2
          exact ⟨rfl, (Keeps.refl [] w).drewN _⟩
theorem countP_take {l : List Cn} {i : Nat} {d : Cn} (h : l[i]? = some d) : (l.take (i + 1)).countP (·.opn) = (l.take i).countP (·.opn) + (if d.opn = true then 1 else 0) := by
  rw [List.take_add_one, h, List.countP_append]
  simp [List.countP_cons]
set_option maxHeartbeats 4000000 in
theorem rlen_any (n : Nat) (F : List Nat) (N : NS) (B : Int) (w : World) (h : NRep rc w n F N) (hN : OkN N B) :
    Calls Try.prog 61 #[.pointer (some ⟨n, 0, none⟩)] w fun e w' => e = .returned (.tuple #[.int .i64 N.queue.length, .int .i64 N.nopen]) ∧ Keeps [] w w' := by
  obtain ⟨own, ps, vc, vq, h⟩ := h
  have n1 := h.blk.cell 1
  have n2 := h.blk.cell 2
  simp [rc] at n1 n2
  obtain ⟨QA, qcap, rfl, -⟩ := h.rq.form
  obtain ⟨CA, ccap, hvc, -⟩ := h.rc.form
  rw [hvc] at n1
  have H := hid h
  have HVC := hid hvc
  have HOP := hid hN.op
  have hcl := hN.cl
  clear h hN hvc
  go_enter Try.func61, Try.ntmps61
  go_wp2_with fail
  go_loopw [4, 5] (fun c i wr => ∃ k : Nat, k ≤ N.cs.length ∧ i = .int .i64 k ∧ c = .int .i64 ((N.cs.take k).countP (·.opn) : Nat) ∧ Keeps [] w wr) (fun _ i _ => N.cs.length - (intOf i).toNat)
  case atStart => exact ⟨0, Nat.zero_le _, rfl, rfl, Keeps.refl _ _⟩
  case round =>
    obtain ⟨k, hk, rfl, rfl, hkp⟩ := hrel
    have e1 := cell_keep hkp (by simp) n1
    have e2 := cell_keep hkp (by simp) n2
    have HKP := hid hkp
    clear hkp
    by_cases hlt : k < N.cs.length
    · obtain ⟨d, hd⟩ : ∃ d, N.cs[k]? = some d := ⟨N.cs[k], List.getElem?_eq_getElem hlt⟩
      obtain ⟨p, b, off, cap, -, hvv, hkl, hle, hcap, hcell, hbn, vi, vo, vt, hc⟩ := H.out.conn hd
      rw [HVC.out] at hvv
      injection hvv with hA _ hcc
      subst hA hcc
      have c2 := hc.1.cell 2
      simp [rc] at c2
      have g0 := cell_keep HKP.out (by simp) hcell
      have g2 := cell_keep HKP.out (by simp) c2
      have hki : (k : Int) < N.cs.length := by omega
      have hct := countP_take hd
      obtain ⟨q, hq⟩ : ∃ q, (N.cs.take k).countP (·.opn) = q := ⟨_, rfl⟩
      have hql : q ≤ 65536 := by
        have := List.countP_le_length (p := fun d : Cn => d.opn) (l := N.cs.take k)
        rw [List.length_take] at this
        omega
      rw [hq] at hct ⊢
      have HCT := hid hct
      obtain ⟨bo, hbo⟩ : ∃ b, d.opn = b := ⟨_, rfl⟩
      rw [hbo] at g2 HCT
      clear hc hd hcell c2 hct hq hbo
      cases bo with
      | true =>
        go_wp2_with fail
        go_roundw
        case rel => exact ⟨k + 1, by omega, by go_num, by rw [HCT.out]; go_num, HKP.out⟩
        case measure => simp [intOf] <;> omega
      | false =>
        go_wp2_with fail
        go_roundw
        case rel => exact ⟨k + 1, by omega, by go_num, by rw [HCT.out]; simp, HKP.out⟩
        case measure => simp [intOf] <;> omega
    · have hkl : k = N.cs.length := by omega
      subst hkl
      rw [List.take_length]
      go_wp2_with fail
      go_ret2
      rw [← HOP.out]
      exact ⟨rfl, HKP.out⟩
end Go.Proofs.Ytkeffebcmajhmaa
/- The reference's net: State by contract. -/
namespace Go.Proofs.Ytkeffebcmajhmaa
open Go.RowKit
set_option linter.unusedVariables false
set_option linter.unusedSimpArgs false
set_option maxHeartbeats 4000000 in
theorem rstate_any (n : Nat) (F : List Nat) (N : NS) (k : Int) (w : World) (h : NRep rc w n F N) :
    Calls Try.prog 96 #[.pointer (some ⟨n, 0, none⟩), .int .i64 k] w fun e w' => e = .returned (.agg #[.bool (stateN N k).1, .bool (stateN N k).2.1, .bool (stateN N k).2.2.1, .int .i64 (stateN N k).2.2.2]) ∧ Keeps [] w w' := by
  obtain ⟨own, ps, vc, vq, h⟩ := h
  have n1 := h.blk.cell 1
  simp [rc] at n1
  have m1 := fun o => alloc_cell n1 o
  unfold stateN
  rcases h.which k with hk | ⟨i, p, d, rfl, hp, hd⟩
  · rw [cnAt_none hk]
    obtain ⟨A, cap, rfl, -⟩ := h.rc.form
    have hk := rno_cases h hk
    clear h
    simp only
    rcases hk with d0 | ⟨d0, d1⟩
    all_goals
      go_enter Try.func96, Try.ntmps96
      go_wp2_with fail
      refine bodyPost_ret (v := .agg #[.bool false, .bool false, .bool false, .int .i64 0]) (by simp [results, Try.results96, go_sem]) rfl ⟨rfl, ?_⟩
      (repeat (first | exact Keeps.refl _ _ | exact .inr (Nat.le_refl _) | apply Keeps.drewN | apply Keeps.drew | apply Keeps.alloc | apply Keeps.setCell))
  · rw [cnAt_some hd]
    obtain ⟨p, b, off, cap, -, rfl, hkl, hle, hcap, hcell, hbn, vi, vo, vt, hc⟩ := h.conn hd
    have c0 := hc.1.cell 0
    have c1 := hc.1.cell 1
    have c2 := hc.1.cell 2
    have c4 := hc.1.cell 4
    simp [rc] at c0 c1 c2 c4
    have e0 := fun o => alloc_cell c0 o
    have e1 := fun o => alloc_cell c1 o
    have e2 := fun o => alloc_cell c2 o
    have e4 := fun o => alloc_cell c4 o
    have ec := fun o => alloc_cell hcell o
    have hki : (i : Int) < N.cs.length := by omega
    have d0 : decide ((i : Int) < 0) = false := by simp
    have d1 : decide ((N.cs.length : Int) ≤ (i : Int)) = false := by simp; omega
    have hpw := hc.1.lt
    clear h hc hp hd
    simp only
    go_enter Try.func96, Try.ntmps96
    go_wp2_with fail
    go_region_law (fail)
    all_goals
      go_wp2_with fail
      refine bodyPost_ret (v := .agg #[.bool d.waits, .bool d.opn, .bool d.broken, .int .i64 d.peer]) (by simp [results, Try.results96, go_sem]) rfl ⟨rfl, ?_⟩
      (repeat (first | exact Keeps.refl _ _ | exact .inr (Nat.le_refl _) | apply Keeps.drewN | apply Keeps.drew | apply Keeps.alloc | apply Keeps.setCell))
end Go.Proofs.Ytkeffebcmajhmaa
