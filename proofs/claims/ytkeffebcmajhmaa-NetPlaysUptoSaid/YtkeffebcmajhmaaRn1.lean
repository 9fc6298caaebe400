/- The reference's net: New, theirs, ours, Half, Reset, Shut, Open by contract. -/
import Derived.Test.YtkeffebcmajhmaaNet21
namespace Go.Proofs.Ytkeffebcmajhmaa
open Go.RowKit
set_option linter.unusedVariables false
set_option linter.unusedSimpArgs false
theorem rblk_eq {w : World} {q : Nat} {T : TypeId} {a b : Array Value} (h : Blk w q T a) (e : a = b) : Blk w q T b := e ▸ h
def rc : Cfg where
  T := 167
  PT := 168
  NT := 108
  lay := fun d vi vo vt => #[.int .i64 d.peer, .bool d.waits, .bool d.opn, .bool d.taken, .bool d.broken, .bool d.halved, .bool d.shut, vi, vo, vt, .int .i64 d.window, .int .i64 d.reads, .int .i64 d.writes]
  nlay := fun N vc vq => #[.int .i64 N.backlog, vc, vq, .int .i64 N.fails, .bool N.stopped, .int .i64 N.marks]
theorem rnnew_bad (b : Int) (w : World) (h : b < 1 ∨ (1 ≤ b ∧ 64 < b)) :
    Calls Try.prog 58 #[.int .i64 b] w fun e w' => e = .returned (.tuple #[.pointer none, .int .i64 1]) ∧ w = w' := by
  rcases h with h | ⟨h0, h⟩
  all_goals
    go_enter Try.func58, Try.ntmps58
    go_wp2
    go_ret2
    exact ⟨rfl, rfl⟩
theorem rnnew_ok (b : Int) (w : World) (h1 : 1 ≤ b) (h2 : b ≤ 64) :
    Calls Try.prog 58 #[.int .i64 b] w fun e w' => e = .returned (.tuple #[.pointer (some ⟨w.heap.size, 0, none⟩), .int .i64 0]) ∧ NRep rc w' w.heap.size [w.heap.size] (newN b) ∧ Keeps [] w w' := by
  have h1' : ¬ b < 1 := by omega
  have h2' : ¬ 64 < b := by omega
  go_enter Try.func58, Try.ntmps58
  go_wp2
  go_ret2
  exact ⟨rfl, nrep_new rc w b _ rfl, (Keeps.refl [] w).alloc _⟩
section
variable {w w' : World} {n : Nat} {F : List Nat} {own : Nat → Nat} {ps : List Nat} {vc vq : Value} {N : NS}
theorem rtheirs_out (h : NAt rc w n F own ps vc vq N) (k : Int) (hk : k < 0 ∨ (0 ≤ k ∧ (N.cs.length : Int) ≤ k)) :
    Calls Try.prog 101 #[.pointer (some ⟨n, 0, none⟩), .int .i64 k] w fun e w' => e = .returned (.tuple #[.pointer none, .int .i64 2]) ∧ Keeps [] w w' := by
  have c1 := h.blk.cell 1
  simp [rc] at c1
  obtain ⟨A, cap, rfl, -⟩ := h.rc.form
  clear h
  rcases hk with hk | ⟨h0, hk⟩
  · have d0 : decide (k < 0) = true := by simpa using hk
    go_enter Try.func101, Try.ntmps101
    go_wp2_with fail
    go_ret2
    exact ⟨rfl, Keeps.refl _ _⟩
  · have d0 : decide (k < 0) = false := by simpa using h0
    have d1 : decide ((N.cs.length : Int) ≤ k) = true := by simpa using hk
    go_enter Try.func101, Try.ntmps101
    go_wp2_with fail
    go_ret2
    exact ⟨rfl, Keeps.refl _ _⟩
set_option maxHeartbeats 4000000 in
theorem rtheirs_in (h : NAt rc w n F own ps vc vq N) (k : Nat) (p : Nat) (d : Cn) (hp : ps[k]? = some p) (hd : N.cs[k]? = some d) :
    Calls Try.prog 101 #[.pointer (some ⟨n, 0, none⟩), .int .i64 k] w fun e w' => e = .returned (.tuple #[ptrIf (theirsD d) p, .int .i64 (theirsD d)]) ∧ Keeps [] w w' := by
  obtain ⟨p', b, off, cap, hp', rfl, hkl, hle, hcap, hcell, hbn, vi, vo, vt, hc⟩ := h.conn hd
  rw [hp] at hp'
  injection hp' with hp'
  subst hp'
  have n1 := h.blk.cell 1
  have c1 := hc.1.cell 1
  have c2 := hc.1.cell 2
  have c4 := hc.1.cell 4
  simp [rc] at n1 c1 c2 c4
  have hki : (k : Int) < N.cs.length := by omega
  have d0 : decide ((k : Int) < 0) = false := by simp
  have d1 : decide ((N.cs.length : Int) ≤ (k : Int)) = false := by simp; omega
  obtain ⟨d0, d1, d2, d3, d4, d5, d6, d7, d8, d9, d10, d11, d12⟩ := d
  simp only at c1 c2 c4
  clear h hp hd hc
  obtain ⟨v, hv⟩ : ∃ v, ptrIf (theirsD ⟨d0, d1, d2, d3, d4, d5, d6, d7, d8, d9, d10, d11, d12⟩) p = v := ⟨_, rfl⟩
  obtain ⟨e, he⟩ : ∃ e, theirsD ⟨d0, d1, d2, d3, d4, d5, d6, d7, d8, d9, d10, d11, d12⟩ = e := ⟨_, rfl⟩
  rw [hv, he]
  rw [he] at hv
  cases d0 <;> cases d1 <;> cases d2
  all_goals
    simp [theirsD] at he
    subst he
    simp [ptrIf] at hv
    subst hv
    go_enter Try.func101, Try.ntmps101
    go_wp2_with fail
    go_ret2
    exact ⟨rfl, Keeps.refl _ _⟩
theorem rours_out (h : NAt rc w n F own ps vc vq N) (k : Int) (hk : k < 0 ∨ (0 ≤ k ∧ (N.cs.length : Int) ≤ k)) :
    Calls Try.prog 103 #[.pointer (some ⟨n, 0, none⟩), .int .i64 k] w fun e w' => e = .returned (.tuple #[.pointer none, .int .i64 2]) ∧ Keeps [] w w' := by
  have c1 := h.blk.cell 1
  simp [rc] at c1
  obtain ⟨A, cap, rfl, -⟩ := h.rc.form
  clear h
  rcases hk with hk | ⟨h0, hk⟩
  · have d0 : decide (k < 0) = true := by simpa using hk
    go_enter Try.func103, Try.ntmps103
    go_wp2_with fail
    go_ret2
    exact ⟨rfl, Keeps.refl _ _⟩
  · have d0 : decide (k < 0) = false := by simpa using h0
    have d1 : decide ((N.cs.length : Int) ≤ k) = true := by simpa using hk
    go_enter Try.func103, Try.ntmps103
    go_wp2_with fail
    go_ret2
    exact ⟨rfl, Keeps.refl _ _⟩
set_option maxHeartbeats 4000000 in
theorem rours_in (h : NAt rc w n F own ps vc vq N) (k : Nat) (p : Nat) (d : Cn) (hp : ps[k]? = some p) (hd : N.cs[k]? = some d) :
    Calls Try.prog 103 #[.pointer (some ⟨n, 0, none⟩), .int .i64 k] w fun e w' => e = .returned (.tuple #[ptrIf (oursD d) p, .int .i64 (oursD d)]) ∧ Keeps [] w w' := by
  obtain ⟨p', b, off, cap, hp', rfl, hkl, hle, hcap, hcell, hbn, vi, vo, vt, hc⟩ := h.conn hd
  rw [hp] at hp'
  injection hp' with hp'
  subst hp'
  have n1 := h.blk.cell 1
  have c1 := hc.1.cell 1
  have c2 := hc.1.cell 2
  have c4 := hc.1.cell 4
  simp [rc] at n1 c1 c2 c4
  have hki : (k : Int) < N.cs.length := by omega
  have d0 : decide ((k : Int) < 0) = false := by simp
  have d1 : decide ((N.cs.length : Int) ≤ (k : Int)) = false := by simp; omega
  obtain ⟨d0, d1, d2, d3, d4, d5, d6, d7, d8, d9, d10, d11, d12⟩ := d
  simp only at c1 c2 c4
  clear h hp hd hc
  obtain ⟨v, hv⟩ : ∃ v, ptrIf (oursD ⟨d0, d1, d2, d3, d4, d5, d6, d7, d8, d9, d10, d11, d12⟩) p = v := ⟨_, rfl⟩
  obtain ⟨e, he⟩ : ∃ e, oursD ⟨d0, d1, d2, d3, d4, d5, d6, d7, d8, d9, d10, d11, d12⟩ = e := ⟨_, rfl⟩
  rw [hv, he]
  rw [he] at hv
  cases d0 <;> cases d1 <;> cases d2
  all_goals
    simp [oursD] at he
    subst he
    simp [ptrIf] at hv
    subst hv
    go_enter Try.func103, Try.ntmps103
    go_wp2_with fail
    go_ret2
    exact ⟨rfl, Keeps.refl _ _⟩
end
theorem rbreaks_any (p : Nat) (cs : Array Value) (w : World) (h : Blk w p 167 cs) (hs : cs.size = 13) :
    Calls Try.prog 102 #[.pointer (some ⟨p, 0, none⟩)] w fun e w' => e = .returned (.tuple #[]) ∧ w' = ((w.setCell ⟨p, 4, none⟩ (.bool true)).setCell ⟨p, 7, none⟩ (.slice none 0 0)).setCell ⟨p, 10, none⟩ (.int .i64 0) := by
  have c4 := h.cell 4
  have c7 := h.cell 7
  have c10 := h.cell 10
  rw [Array.getElem?_eq_getElem (by omega)] at c4 c7 c10
  have f4 := h.frozen 4
  have f7 := h.frozen 7
  have f10 := h.frozen 10
  clear h
  go_enter Try.func102, Try.ntmps102
  go_wp2_with fail
  go_end0
  exact ⟨rfl, rfl⟩
theorem rtheirs_W {w : World} {n : Nat} {F : List Nat} {own : Nat → Nat} {ps : List Nat} {vc vq v : Value} {N : NS} {i p : Nat} {d : Cn} {t : Int} (h : NAt rc w n F own ps vc vq N) (hp : ps[i]? = some p) (hd : N.cs[i]? = some d) (ht : theirsD d = t) (hv : ptrIf t p = v) :
    ∀ W, Keeps [] w W → Calls Try.prog 101 #[.pointer (some ⟨n, 0, none⟩), .int .i64 i] W fun e w' => e = .returned (.tuple #[v, .int .i64 t]) ∧ Keeps [] W w' := by
  intro W hW
  have := rtheirs_in (h.keeps hW (by simp)) i p d hp hd
  rw [ht, hv] at this
  exact this
theorem rours_W {w : World} {n : Nat} {F : List Nat} {own : Nat → Nat} {ps : List Nat} {vc vq v : Value} {N : NS} {i p : Nat} {d : Cn} {t : Int} (h : NAt rc w n F own ps vc vq N) (hp : ps[i]? = some p) (hd : N.cs[i]? = some d) (ht : oursD d = t) (hv : ptrIf t p = v) :
    ∀ W, Keeps [] w W → Calls Try.prog 103 #[.pointer (some ⟨n, 0, none⟩), .int .i64 i] W fun e w' => e = .returned (.tuple #[v, .int .i64 t]) ∧ Keeps [] W w' := by
  intro W hW
  have := rours_in (h.keeps hW (by simp)) i p d hp hd
  rw [ht, hv] at this
  exact this
set_option maxHeartbeats 1000000 in
theorem rhalf_any (n : Nat) (F : List Nat) (N : NS) (B k : Int) (w : World) (h : NRep rc w n F N) (hN : OkN N B) (hB : B ≤ 1099511627776) :
    Calls Try.prog 84 #[.pointer (some ⟨n, 0, none⟩), .int .i64 k] w fun e w' => e = .returned (.int .i64 (halfN N k).2) ∧ NDone rc w n F (halfN N k).1 w' := by
  have hR := hid h
  obtain ⟨own, ps, vc, vq, h⟩ := h
  have H := hid h
  unfold halfN
  rcases h.which k with hk | ⟨i, p, d, rfl, hp, hd⟩
  · rw [onConn_none hk]
    have HK := hid hk
    clear h hk hN
    go_enter Try.func84, Try.ntmps84
    go_wp2_with (go_at_call 101; refine (rtheirs_out H.out _ HK.out).mono ?_; rintro e w1 ⟨rfl, hk⟩)
    go_ret
    exact ⟨rfl, NDone.same hR.out hk⟩
  · rw [onConn_some hd]
    obtain ⟨vi, vo, vt, hc⟩ := h.at_ i p d hp hd
    have hok := hN.cn d (List.mem_of_getElem? hd)
    have hr0 := hok.r0
    have hr1 := hok.r1
    have HD := hid hd
    have HP := hid hp
    have HC := hid hc
    have hT := fun w => rtheirs_in (w := w) (n := n) (F := F) (own := own) (ps := ps) (vc := vc) (vq := vq) (N := N)
    have hw1 : IntKind.i64.wrap (d.reads + 1) = d.reads + 1 := IntWalk.i64_in _ (by omega)
    have c4 := hc.1.cell 5
    have c9 := hc.1.cell 11
    have f4 := hc.1.frozen 5
    have f9 := hc.1.frozen 11
    simp [rc] at c4 c9
    obtain ⟨t, ht⟩ : ∃ t, theirsD d = t := ⟨_, rfl⟩
    obtain ⟨v, hv⟩ : ∃ v, ptrIf t p = v := ⟨_, rfl⟩
    have HT : Hid (∀ W, Keeps [] w W → Calls Try.prog 101 #[.pointer (some ⟨n, 0, none⟩), .int .i64 i] W fun e w' => e = .returned (.tuple #[v, .int .i64 t]) ∧ Keeps [] W w') := by
      refine hid fun W hW => ?_
      have := rtheirs_in (H.out.keeps hW (by simp)) i p d HP.out HD.out
      rw [ht, hv] at this
      exact this
    clear h hN hok hp hd hc hT
    unfold halfD
    rw [ht]
    by_cases h0 : t = 0
    · subst h0
      simp [ptrIf] at hv
      subst hv
      clear ht
      obtain ⟨hv, hhv⟩ : ∃ b, d.halved = b := ⟨_, rfl⟩
      rw [hhv] at c4
      cases hv with
      | true =>
        rw [if_pos rfl, if_pos hhv]
        simp only
        have HHV := hid hhv
        clear hhv
        go_enter Try.func84, Try.ntmps84
        go_wp2_with (go_at_call 101; refine (HT.out _ (Keeps.refl _ _)).mono ?_; rintro e w1 ⟨rfl, hk⟩; have e4 := cell_keep hk (by simp) c4; have g4 := (HC.out.1.keeps hk (by simp)).frozen 5)
        go_ret
        refine ⟨rfl, NDone.after (H.out.keeps hk (by simp)) hk ?_⟩
        refine NAt.cells (H.out.keeps hk (by simp)) HP.out HD.out (HC.out.keeps hk (by simp)) ((Keeps.refl [p] w1).setCell (p := ⟨p, 5, none⟩) (.inl (by simp)) _) d vi rfl ?_ (.inl ⟨rfl, rfl⟩) rfl rfl
        exact rblk_eq ((HC.out.1.keeps hk (by simp)).set_ 5 (.bool true)) (by simp [rc, HHV.out])
      | false =>
        rw [if_pos rfl, if_neg (by rw [hhv]; simp)]
        simp only
        have HHV := hid hhv
        clear hhv
        go_enter Try.func84, Try.ntmps84
        go_wp2_with (go_at_call 101; refine (HT.out _ (Keeps.refl _ _)).mono ?_; rintro e w1 ⟨rfl, hk⟩; have e4 := cell_keep hk (by simp) c4; have e9 := cell_keep hk (by simp) c9; have g4 := (HC.out.1.keeps hk (by simp)).frozen 5; have g9 := (HC.out.1.keeps hk (by simp)).frozen 11)
        go_ret
        refine ⟨rfl, NDone.after (H.out.keeps hk (by simp)) hk ?_⟩
        refine NAt.cells (H.out.keeps hk (by simp)) HP.out HD.out (HC.out.keeps hk (by simp)) (((Keeps.refl [p] w1).setCell (p := ⟨p, 11, none⟩) (.inl (by simp)) _).setCell (p := ⟨p, 5, none⟩) (.inl (by simp)) _) _ vi rfl ?_ (.inl ⟨rfl, rfl⟩) rfl rfl
        simpa [rc] using ((HC.out.1.keeps hk (by simp)).set_ 11 (.int .i64 (d.reads + 1))).set_ 5 (.bool true)
    · rw [if_neg h0]
      simp only
      rw [upd_self HD.out]
      simp [ptrIf, h0] at hv
      subst hv
      have HT0 := hid ht
      have hne : (t == 0) = false := by simp [h0]
      have hne2 : (t != 0) = true := by simp [h0]
      clear h0 ht
      go_enter Try.func84, Try.ntmps84
      go_wp2_with (go_at_call 101; refine (HT.out _ (Keeps.refl _ _)).mono ?_; rintro e w1 ⟨rfl, hk⟩)
      go_ret
      exact ⟨rfl, NDone.same hR.out hk⟩
set_option maxHeartbeats 1000000 in
theorem rreset_any (n : Nat) (F : List Nat) (N : NS) (B k : Int) (w : World) (h : NRep rc w n F N) (hN : OkN N B) (hB : B ≤ 1099511627776) :
    Calls Try.prog 85 #[.pointer (some ⟨n, 0, none⟩), .int .i64 k] w fun e w' => e = .returned (.int .i64 (resetN N k).2) ∧ NDone rc w n F (resetN N k).1 w' := by
  have hR := hid h
  obtain ⟨own, ps, vc, vq, h⟩ := h
  have H := hid h
  unfold resetN
  rcases h.which k with hk | ⟨i, p, d, rfl, hp, hd⟩
  · rw [onConn_none hk]
    have HK := hid hk
    clear h hk hN
    go_enter Try.func85, Try.ntmps85
    go_wp2_with (go_at_call 101; refine (rtheirs_out H.out _ HK.out).mono ?_; rintro e w1 ⟨rfl, hk⟩)
    go_ret
    exact ⟨rfl, NDone.same hR.out hk⟩
  · rw [onConn_some hd]
    obtain ⟨vi, vo, vt, hc⟩ := h.at_ i p d hp hd
    have hok := hN.cn d (List.mem_of_getElem? hd)
    have hr0 := hok.r0
    have hr1 := hok.r1
    have hs0 := hok.s0
    have hs1 := hok.s1
    have hw1 : IntKind.i64.wrap (d.reads + 1) = d.reads + 1 := IntWalk.i64_in _ (by omega)
    have hw2 : IntKind.i64.wrap (d.writes + 1) = d.writes + 1 := IntWalk.i64_in _ (by omega)
    have HD := hid hd
    have HP := hid hp
    have HC := hid hc
    have c9 := hc.1.cell 11
    have c10 := hc.1.cell 12
    simp [rc] at c9 c10
    obtain ⟨t, ht⟩ : ∃ t, theirsD d = t := ⟨_, rfl⟩
    obtain ⟨v, hv⟩ : ∃ v, ptrIf t p = v := ⟨_, rfl⟩
    have HT := hid (rtheirs_W h hp hd ht hv)
    clear h hN hok hp hd hc
    unfold resetD
    rw [ht]
    by_cases h0 : t = 0
    · subst h0
      simp [ptrIf] at hv
      subst hv
      clear ht
      rw [if_pos rfl]
      simp only
      go_enter Try.func85, Try.ntmps85
      go_wp2_with (first
        | (go_at_call 101; refine (HT.out _ (Keeps.refl _ _)).mono ?_; rintro e w1 ⟨rfl, hk⟩; have HK1 := hid hk; have e9 := cell_keep hk (by simp) c9; have e10 := cell_keep hk (by simp) c10; clear hk)
        | (go_at_call 102; refine (rbreaks_any p _ _ (HC.out.1.keeps HK1.out (by simp)) (by simp [rc])).mono ?_; rintro e w2 ⟨rfl, hw2⟩; have hb2 := (((HC.out.1.keeps HK1.out (by simp)).set_ 4 (.bool true)).set_ 7 (.slice none 0 0)).set_ 10 (.int .i64 0); have hk2 : Keeps [p] w1 w2 := (by rw [hw2]; exact (((Keeps.refl [p] w1).setCell (p := ⟨p, 4, none⟩) (.inl (by simp)) _).setCell (p := ⟨p, 7, none⟩) (.inl (by simp)) _).setCell (p := ⟨p, 10, none⟩) (.inl (by simp)) _); rw [← hw2] at hb2; have g9 := hb2.cell 11; have g10 := hb2.cell 12; have k9 := hb2.frozen 11; have k10 := hb2.frozen 12; simp [rc] at g9 g10; have HB2 := hid hb2; have HK2 := hid hk2; clear hb2 hk2 hw2))
      go_ret
      refine ⟨rfl, NDone.after (H.out.keeps HK1.out (by simp)) HK1.out ?_⟩
      refine NAt.cells (H.out.keeps HK1.out (by simp)) HP.out HD.out (HC.out.keeps HK1.out (by simp)) ((HK2.out.setCell (p := ⟨p, 11, none⟩) (.inl (by simp)) _).setCell (p := ⟨p, 12, none⟩) (.inl (by simp)) _) _ (.slice none 0 0) rfl ?_ (.inr ⟨rfl, rfl⟩) rfl rfl
      simpa [rc] using (HB2.out.set_ 11 (.int .i64 (d.reads + 1))).set_ 12 (.int .i64 (d.writes + 1))
    · rw [if_neg h0]
      simp only
      rw [upd_self HD.out]
      simp [ptrIf, h0] at hv
      subst hv
      have HT0 := hid ht
      have hne : (t == 0) = false := by simp [h0]
      have hne2 : (t != 0) = true := by simp [h0]
      clear h0 ht
      go_enter Try.func85, Try.ntmps85
      go_wp2_with (go_at_call 101; refine (HT.out _ (Keeps.refl _ _)).mono ?_; rintro e w1 ⟨rfl, hk⟩)
      go_ret
      exact ⟨rfl, NDone.same hR.out hk⟩
set_option maxHeartbeats 1000000 in
theorem rshut_any (n : Nat) (F : List Nat) (N : NS) (B k : Int) (w : World) (h : NRep rc w n F N) (hN : OkN N B) (hB : B ≤ 1099511627776) :
    Calls Try.prog 90 #[.pointer (some ⟨n, 0, none⟩), .int .i64 k] w fun e w' => e = .returned (.int .i64 (shutN N k).2) ∧ NDone rc w n F (shutN N k).1 w' := by
  have hR := hid h
  obtain ⟨own, ps, vc, vq, h⟩ := h
  have H := hid h
  unfold shutN
  rcases h.which k with hk | ⟨i, p, d, rfl, hp, hd⟩
  · rw [onConn_none hk]
    have HK := hid hk
    clear h hk hN
    go_enter Try.func90, Try.ntmps90
    go_wp2_with (go_at_call 103; refine (rours_out H.out _ HK.out).mono ?_; rintro e w1 ⟨rfl, hk⟩)
    go_ret
    exact ⟨rfl, NDone.same hR.out hk⟩
  · rw [onConn_some hd]
    obtain ⟨vi, vo, vt, hc⟩ := h.at_ i p d hp hd
    have hok := hN.cn d (List.mem_of_getElem? hd)
    have HD := hid hd
    have HP := hid hp
    have HC := hid hc
    have c5 := hc.1.cell 6
    simp [rc] at c5
    obtain ⟨t, ht⟩ : ∃ t, oursD d = t := ⟨_, rfl⟩
    obtain ⟨v, hv⟩ : ∃ v, ptrIf t p = v := ⟨_, rfl⟩
    have HT := hid (rours_W h hp hd ht hv)
    clear h hN hok hp hd hc
    unfold shutD
    rw [ht]
    by_cases h0 : t = 0
    · subst h0
      simp [ptrIf] at hv
      subst hv
      clear ht
      rw [if_pos rfl]
      simp only
      go_enter Try.func90, Try.ntmps90
      go_wp2_with (go_at_call 103; refine (HT.out _ (Keeps.refl _ _)).mono ?_; rintro e w1 ⟨rfl, hk⟩; have e5 := cell_keep hk (by simp) c5; have g5 := (HC.out.1.keeps hk (by simp)).frozen 6)
      go_ret
      refine ⟨rfl, NDone.after (H.out.keeps hk (by simp)) hk ?_⟩
      refine NAt.cells (H.out.keeps hk (by simp)) HP.out HD.out (HC.out.keeps hk (by simp)) ((Keeps.refl [p] w1).setCell (p := ⟨p, 6, none⟩) (.inl (by simp)) _) _ vi rfl ?_ (.inl ⟨rfl, rfl⟩) rfl rfl
      simpa [rc] using (HC.out.1.keeps hk (by simp)).set_ 6 (.bool true)
    · rw [if_neg h0]
      simp only
      rw [upd_self HD.out]
      simp [ptrIf, h0] at hv
      subst hv
      have HT0 := hid ht
      have hne : (t == 0) = false := by simp [h0]
      have hne2 : (t != 0) = true := by simp [h0]
      clear h0 ht
      go_enter Try.func90, Try.ntmps90
      go_wp2_with (go_at_call 103; refine (HT.out _ (Keeps.refl _ _)).mono ?_; rintro e w1 ⟨rfl, hk⟩)
      go_ret
      exact ⟨rfl, NDone.same hR.out hk⟩
set_option maxHeartbeats 1000000 in
theorem ropen_any (n : Nat) (F : List Nat) (N : NS) (B k : Int) (b : Int) (w : World) (h : NRep rc w n F N) (hN : OkN N B) (hB : B ≤ 1099511627776) :
    Calls Try.prog 86 #[.pointer (some ⟨n, 0, none⟩), .int .i64 k, .int .i64 b] w fun e w' => e = .returned (.int .i64 (openN N k b).2) ∧ NDone rc w n F (openN N k b).1 w' := by
  have hR := hid h
  obtain ⟨own, ps, vc, vq, h⟩ := h
  have H := hid h
  unfold openN
  by_cases hb0 : b < 0
  · rw [if_pos hb0]
    clear h hN
    go_enter Try.func86, Try.ntmps86
    go_wp2
    go_ret
    exact ⟨rfl, NDone.same hR.out (Keeps.refl _ _)⟩
  rw [if_neg hb0]
  have hb1 : 0 ≤ b := by omega
  have hb2 : decide (b < 0) = false := by simp; omega
  clear hb0
  rcases h.which k with hk | ⟨i, p, d, rfl, hp, hd⟩
  · rw [onConn_none hk]
    have HK := hid hk
    clear h hk hN
    go_enter Try.func86, Try.ntmps86
    go_wp2_with (go_at_call 101; refine (rtheirs_out H.out _ HK.out).mono ?_; rintro e w1 ⟨rfl, hk⟩)
    go_ret
    exact ⟨rfl, NDone.same hR.out hk⟩
  · rw [onConn_some hd]
    obtain ⟨vi, vo, vt, hc⟩ := h.at_ i p d hp hd
    have hok := hN.cn d (List.mem_of_getElem? hd)
    have hr0 := hok.w0
    have hr1 := hok.w1
    have hs0 := hok.s0
    have hs1 := hok.s1
    have hw2 : IntKind.i64.wrap (d.writes + 1) = d.writes + 1 := IntWalk.i64_in _ (by omega)
    have HD := hid hd
    have HP := hid hp
    have HC := hid hc
    have c8 := hc.1.cell 10
    have c10 := hc.1.cell 12
    simp [rc] at c8 c10
    obtain ⟨t, ht⟩ : ∃ t, theirsD d = t := ⟨_, rfl⟩
    obtain ⟨v, hv⟩ : ∃ v, ptrIf t p = v := ⟨_, rfl⟩
    have HT := hid (rtheirs_W h hp hd ht hv)
    clear h hN hok hp hd hc
    unfold openD
    rw [ht]
    by_cases h0 : t = 0
    · subst h0
      simp [ptrIf] at hv
      subst hv
      clear ht
      rw [if_pos rfl]
      simp only
      obtain ⟨m, hm⟩ : ∃ m, min b (1099511627776 - d.window) = m := ⟨_, rfl⟩
      have hm0 : 0 ≤ m := by omega
      have hm1 : m ≤ 1099511627776 := by omega
      have hmi : (m = b ∧ ¬ 1099511627776 - d.window < b) ∨ (m = 1099511627776 - d.window ∧ 1099511627776 - d.window < b) := by omega
      rw [hm]
      clear hm
      have hw3 : IntKind.i64.wrap (1099511627776 - d.window) = 1099511627776 - d.window := IntWalk.i64_in _ (by omega)
      rcases (by omega : 0 < b ∨ b = 0) with hb3 | rfl
      · rw [if_pos hb3]
        rcases hmi with ⟨hm2, hm3⟩ | ⟨hm2, hm3⟩
        all_goals
          have hw4 : IntKind.i64.wrap (d.window + m) = d.window + m := IntWalk.i64_in _ (by omega)
          subst hm2
          go_enter Try.func86, Try.ntmps86
          go_wp2_with (go_at_call 101; refine (HT.out _ (Keeps.refl _ _)).mono ?_; rintro e w1 ⟨rfl, hk⟩; have e8 := cell_keep hk (by simp) c8; have e10 := cell_keep hk (by simp) c10; have HK1 := hid hk; have g8 := (HC.out.1.keeps hk (by simp)).frozen 10; have g10 := (HC.out.1.keeps hk (by simp)).frozen 12; clear hk)
          go_region_law (fail)
          all_goals
            go_wp2_with fail
            go_ret
            refine ⟨rfl, NDone.after (H.out.keeps HK1.out (by simp)) HK1.out ?_⟩
            refine NAt.cells (H.out.keeps HK1.out (by simp)) HP.out HD.out (HC.out.keeps HK1.out (by simp)) (by repeat (first | exact Keeps.refl _ _ | refine Keeps.setCell ?_ (.inl (by simp)) _ | refine Keeps.drew ?_ | refine Keeps.drewN ?_ _)) _ vi rfl ?_ (.inl ⟨rfl, rfl⟩) rfl rfl
            try refine Blk.drew ?_
            simpa [rc] using ((HC.out.1.keeps HK1.out (by simp)).set_ 10 (.int .i64 _)).set_ 12 (.int .i64 (d.writes + 1))
      · have hm2 : m = 0 := by omega
        subst hm2
        rw [if_neg (by omega)]
        clear hmi
        have hw4 : IntKind.i64.wrap (d.window + 0) = d.window + 0 := IntWalk.i64_in _ (by omega)
        have hm3 : ¬ 1099511627776 - d.window < 0 := by omega
        go_enter Try.func86, Try.ntmps86
        go_wp2_with (go_at_call 101; refine (HT.out _ (Keeps.refl _ _)).mono ?_; rintro e w1 ⟨rfl, hk⟩; have e8 := cell_keep hk (by simp) c8; have e10 := cell_keep hk (by simp) c10; have HK1 := hid hk; have g8 := (HC.out.1.keeps hk (by simp)).frozen 10; have g10 := (HC.out.1.keeps hk (by simp)).frozen 12; clear hk)
        go_region_law (fail)
        all_goals
          go_wp2_with fail
          go_ret
          refine ⟨rfl, NDone.after (H.out.keeps HK1.out (by simp)) HK1.out ?_⟩
          refine NAt.cells (H.out.keeps HK1.out (by simp)) HP.out HD.out (HC.out.keeps HK1.out (by simp)) (by repeat (first | exact Keeps.refl _ _ | refine Keeps.setCell ?_ (.inl (by simp)) _ | refine Keeps.drew ?_ | refine Keeps.drewN ?_ _)) _ vi rfl ?_ (.inl ⟨rfl, rfl⟩) rfl rfl
          try refine Blk.drew ?_
          simpa [rc] using (HC.out.1.keeps HK1.out (by simp)).set_ 10 (.int .i64 _)
    · rw [if_neg h0]
      simp only
      rw [upd_self HD.out]
      simp [ptrIf, h0] at hv
      subst hv
      have HT0 := hid ht
      have hne : (t == 0) = false := by simp [h0]
      have hne2 : (t != 0) = true := by simp [h0]
      clear h0 ht
      go_enter Try.func86, Try.ntmps86
      go_wp2_with (go_at_call 101; refine (HT.out _ (Keeps.refl _ _)).mono ?_; rintro e w1 ⟨rfl, hk⟩)
      go_ret
      exact ⟨rfl, NDone.same hR.out hk⟩
end Go.Proofs.Ytkeffebcmajhmaa
