/- The law's does by contract, its plain kinds. -/
import Derived.Test.YtkeffebcmajhmaaNDoes1
namespace Go.Proofs.Ytkeffebcmajhmaa
open Go.RowKit
set_option linter.unusedVariables false
set_option linter.unusedSimpArgs false
set_option maxRecDepth 100000 in
set_option maxHeartbeats 8000000 in
theorem does_1 (w : World) (F G : List Nat) (n x : Nat) (N : NS) (B c m : Int) (bv : Value) (b : List Int) (av : Value) (a : List Int) (P : DoesPre w F G n x N B m bv b av a) :
    Calls Try.prog 59 #[.pointer (some ⟨n, 0, none⟩), .pointer (some ⟨x, 0, none⟩), .agg #[.int .i64 1, .int .i64 c, .int .i64 m, bv, av]] w (DoesPost w F G n x B) := by
  obtain ⟨hs, hc5, hfin, hrb, hra⟩ := does_start (k := 1) (c := c) (T := 104) P
  have hN := hid P.ok
  have hB0 := P.b0
  have hB1 := P.b1
  have hlb := P.lb
  have hla := P.la
  have hm0 := P.m0
  have hm1 := P.m1
  obtain ⟨q0, q1, q2, q3, q4⟩ := hc5 _ (Keeps.refl _ _)
  have HS := hid hs
  have HC5 := hid hc5
  have HF := hid hfin
  have HRB := hid hrb
  have HRA := hid hra
  clear P hs hc5 hfin hrb hra
  obtain ⟨R, hR⟩ : ∃ R, connectN N m = R := ⟨_, rfl⟩
  have hok := okN_connect hN.out m hB0
  rw [hR] at hok
  have HOK := hid hok
  have HR := hid hR
  clear hok hR
  obtain ⟨N2, r1, r2⟩ := R
  go_enter Try.func59, Try.ntmps59
  go_wp2_with fail
  obtain ⟨w1, hw1⟩ : ∃ x, w.alloc (.cells #[.int .i64 1, .int .i64 c, .int .i64 m, bv, av] 104) = x := ⟨_, rfl⟩
  rw [hw1] at HS HC5 HF HRB HRA q0 q1 q2 q3 q4 ⊢
  clear hw1
  obtain ⟨FP, g1, g2, g3⟩ := HS.out.prog_
  refine (connect_any n FP N B m _ g1 hN.out (by omega)).mono ?_
  rw [HR.out]
  rintro e w2 ⟨rfl, hd⟩
  have HS2 := hid (g3 _ _ hd)
  clear g1 g2 g3 hd
  obtain ⟨q0', q1', q2', q3', q4'⟩ := HC5.out _ HS2.out.keepsW
  go_wp2_with fail
  obtain ⟨GP, g1, g2, g3⟩ := HS2.out.ref_
  refine (rconnect_any x GP N B m _ g1 hN.out (by omega)).mono ?_
  rw [HR.out]
  rintro e w3 ⟨rfl, hd⟩
  have HS3 := hid (g3 _ _ hd)
  clear g1 g2 g3 hd
  go_wp2_with fail
  go_ret
  exact ⟨by simp, N2, HOK.out.mono (by omega), HF.out _ _ HS3.out⟩
set_option maxRecDepth 100000 in
set_option maxHeartbeats 8000000 in
theorem does_7 (w : World) (F G : List Nat) (n x : Nat) (N : NS) (B c m : Int) (bv : Value) (b : List Int) (av : Value) (a : List Int) (P : DoesPre w F G n x N B m bv b av a) :
    Calls Try.prog 59 #[.pointer (some ⟨n, 0, none⟩), .pointer (some ⟨x, 0, none⟩), .agg #[.int .i64 7, .int .i64 c, .int .i64 m, bv, av]] w (DoesPost w F G n x B) := by
  obtain ⟨hs, hc5, hfin, hrb, hra⟩ := does_start (k := 7) (c := c) (T := 104) P
  have hN := hid P.ok
  have hB0 := P.b0
  have hB1 := P.b1
  have hlb := P.lb
  have hla := P.la
  have hm0 := P.m0
  have hm1 := P.m1
  obtain ⟨q0, q1, q2, q3, q4⟩ := hc5 _ (Keeps.refl _ _)
  have HS := hid hs
  have HC5 := hid hc5
  have HF := hid hfin
  have HRB := hid hrb
  have HRA := hid hra
  clear P hs hc5 hfin hrb hra
  obtain ⟨R, hR⟩ : ∃ R, acceptN N = R := ⟨_, rfl⟩
  have hok := okN_accept hN.out
  rw [hR] at hok
  have HOK := hid hok
  have HR := hid hR
  clear hok hR
  obtain ⟨N2, r1, r2, r3⟩ := R
  go_enter Try.func59, Try.ntmps59
  go_wp2_with fail
  obtain ⟨w1, hw1⟩ : ∃ x, w.alloc (.cells #[.int .i64 7, .int .i64 c, .int .i64 m, bv, av] 104) = x := ⟨_, rfl⟩
  rw [hw1] at HS HC5 HF HRB HRA q0 q1 q2 q3 q4 ⊢
  clear hw1
  obtain ⟨FP, g1, g2, g3⟩ := HS.out.prog_
  refine (accept_any n FP N B _ g1 hN.out (by omega)).mono ?_
  rw [HR.out]
  rintro e w2 ⟨rfl, hd⟩
  have HS2 := hid (g3 _ _ hd)
  clear g1 g2 g3 hd
  obtain ⟨q0', q1', q2', q3', q4'⟩ := HC5.out _ HS2.out.keepsW
  go_wp2_with fail
  obtain ⟨GP, g1, g2, g3⟩ := HS2.out.ref_
  refine (raccept_any x GP N B _ g1 hN.out (by omega)).mono ?_
  rw [HR.out]
  rintro e w3 ⟨rfl, hd⟩
  have HS3 := hid (g3 _ _ hd)
  clear g1 g2 g3 hd
  go_wp2_with fail
  go_ret
  exact ⟨by simp, N2, HOK.out.mono (by omega), HF.out _ _ HS3.out⟩
set_option maxRecDepth 100000 in
set_option maxHeartbeats 8000000 in
theorem does_12 (w : World) (F G : List Nat) (n x : Nat) (N : NS) (B c m : Int) (bv : Value) (b : List Int) (av : Value) (a : List Int) (P : DoesPre w F G n x N B m bv b av a) :
    Calls Try.prog 59 #[.pointer (some ⟨n, 0, none⟩), .pointer (some ⟨x, 0, none⟩), .agg #[.int .i64 12, .int .i64 c, .int .i64 m, bv, av]] w (DoesPost w F G n x B) := by
  obtain ⟨hs, hc5, hfin, hrb, hra⟩ := does_start (k := 12) (c := c) (T := 104) P
  have hN := hid P.ok
  have hB0 := P.b0
  have hB1 := P.b1
  have hlb := P.lb
  have hla := P.la
  have hm0 := P.m0
  have hm1 := P.m1
  obtain ⟨q0, q1, q2, q3, q4⟩ := hc5 _ (Keeps.refl _ _)
  have HS := hid hs
  have HC5 := hid hc5
  have HF := hid hfin
  have HRB := hid hrb
  have HRA := hid hra
  clear P hs hc5 hfin hrb hra
  obtain ⟨N2, hR⟩ : ∃ R, stopN N = R := ⟨_, rfl⟩
  have hok := okN_stop hN.out
  rw [hR] at hok
  have HOK := hid hok
  have HR := hid hR
  clear hok hR
  go_enter Try.func59, Try.ntmps59
  go_wp2_with fail
  obtain ⟨w1, hw1⟩ : ∃ x, w.alloc (.cells #[.int .i64 12, .int .i64 c, .int .i64 m, bv, av] 104) = x := ⟨_, rfl⟩
  rw [hw1] at HS HC5 HF HRB HRA q0 q1 q2 q3 q4 ⊢
  clear hw1
  obtain ⟨FP, g1, g2, g3⟩ := HS.out.prog_
  refine (stop_any n FP N B _ g1 hN.out).mono ?_
  rw [HR.out]
  rintro e w2 ⟨rfl, hd⟩
  have HS2 := hid (g3 _ _ hd)
  clear g1 g2 g3 hd
  obtain ⟨q0', q1', q2', q3', q4'⟩ := HC5.out _ HS2.out.keepsW
  go_wp2_with fail
  obtain ⟨GP, g1, g2, g3⟩ := HS2.out.ref_
  refine (rstop_any x GP N B _ g1 hN.out).mono ?_
  rw [HR.out]
  rintro e w3 ⟨rfl, hd⟩
  have HS3 := hid (g3 _ _ hd)
  clear g1 g2 g3 hd
  go_wp2_with fail
  go_ret
  exact ⟨rfl, N2, HOK.out.mono (by omega), HF.out _ _ HS3.out⟩
theorem rinject_facts {w : World} {x : Nat} {G : List Nat} {N : NS} (h : NRep rc w x G N) (k : Int) : w.cell? ⟨x, 3, none⟩ = some (.int .i64 N.fails) ∧ w.frozen? ⟨x, 3, none⟩ = false ∧ NDone rc w x G (injectN N k) (w.setCell ⟨x, 3, none⟩ (.int .i64 (max 0 k))) := by
  obtain ⟨own, ps, vc, vq, h⟩ := h
  have hxG : x ∈ G := h.ftag x (by rw [h.tn]; omega)
  have hW := (Keeps.refl [x] w).setCell (p := ⟨x, 3, none⟩) (.inl (by simp)) (.int .i64 (max 0 k))
  refine ⟨by simpa [rc] using h.blk.cell 3, h.blk.frozen 3, h.head (G := [x]) (vq' := vq) rfl hW ?_ (by simpa [rc, injectN] using h.blk.set_ 3 (.int .i64 (max 0 k))) (h.rq.keeps hW ?_) (fun k e => .inl ⟨h.rq.lt k e, h.oq k e⟩), hW.mono (by simp; exact hxG)⟩
  · intro k hk _
    simp at hk
    subst hk
    exact .inl h.tn
  · intro k e hx
    simp at hx
    subst hx
    have := h.oq k e
    rw [h.tn] at this
    omega
set_option maxRecDepth 100000 in
set_option maxHeartbeats 8000000 in
theorem does_6 (w : World) (F G : List Nat) (n x : Nat) (N : NS) (B c m : Int) (bv : Value) (b : List Int) (av : Value) (a : List Int) (P : DoesPre w F G n x N B m bv b av a) :
    Calls Try.prog 59 #[.pointer (some ⟨n, 0, none⟩), .pointer (some ⟨x, 0, none⟩), .agg #[.int .i64 6, .int .i64 c, .int .i64 m, bv, av]] w (DoesPost w F G n x B) := by
  obtain ⟨hs, hc5, hfin, hrb, hra⟩ := does_start (k := 6) (c := c) (T := 104) P
  have hN := hid P.ok
  have hB0 := P.b0
  have hB1 := P.b1
  have hlb := P.lb
  have hla := P.la
  have hm0 := P.m0
  have hm1 := P.m1
  obtain ⟨q0, q1, q2, q3, q4⟩ := hc5 _ (Keeps.refl _ _)
  have HS := hid hs
  have HC5 := hid hc5
  have HF := hid hfin
  have HRB := hid hrb
  have HRA := hid hra
  clear P hs hc5 hfin hrb hra
  have HOK := hid (okN_inject hN.out m hm1)
  go_enter Try.func59, Try.ntmps59
  go_wp2_with fail
  obtain ⟨w1, hw1⟩ : ∃ x, w.alloc (.cells #[.int .i64 6, .int .i64 c, .int .i64 m, bv, av] 104) = x := ⟨_, rfl⟩
  rw [hw1] at HS HC5 HF HRB HRA q0 q1 q2 q3 q4 ⊢
  clear hw1
  obtain ⟨FP, g1, g2, g3⟩ := HS.out.prog_
  refine (inject_any n FP N m _ g1 hm0 hm1).mono ?_
  rintro e w2 ⟨rfl, hd⟩
  have HS2 := hid (g3 _ _ hd)
  clear g1 g2 g3 hd
  obtain ⟨q0', q1', q2', q3', q4'⟩ := HC5.out _ HS2.out.keepsW
  obtain ⟨GP, g1, g2, g3⟩ := HS2.out.ref_
  obtain ⟨x3, f3, hd⟩ := rinject_facts g1 m
  have HS3 := hid (g3 _ _ hd)
  clear g1 g2 g3 hd
  rcases (by omega : 0 < m ∨ m ≤ 0) with g | g
  · have hm : max 0 m = m := by omega
    rw [hm] at HS3
    go_wp2_with fail
    go_ret
    exact ⟨rfl, injectN N m, HOK.out.mono (by omega), HF.out _ _ HS3.out⟩
  · have hm : max 0 m = 0 := by omega
    rw [hm] at HS3
    go_wp2_with fail
    go_ret
    exact ⟨rfl, injectN N m, HOK.out.mono (by omega), HF.out _ _ HS3.out⟩
set_option maxRecDepth 100000 in
set_option maxHeartbeats 8000000 in
theorem does_0 (w : World) (kk : Int) (hk : kk ≠ 1 ∧ kk ≠ 2 ∧ kk ≠ 3 ∧ kk ≠ 4 ∧ kk ≠ 5 ∧ kk ≠ 6 ∧ kk ≠ 7 ∧ kk ≠ 8 ∧ kk ≠ 9 ∧ kk ≠ 10 ∧ kk ≠ 11 ∧ kk ≠ 12) (F G : List Nat) (n x : Nat) (N : NS) (B c m : Int) (bv : Value) (b : List Int) (av : Value) (a : List Int) (P : DoesPre w F G n x N B m bv b av a) :
    Calls Try.prog 59 #[.pointer (some ⟨n, 0, none⟩), .pointer (some ⟨x, 0, none⟩), .agg #[.int .i64 kk, .int .i64 c, .int .i64 m, bv, av]] w (DoesPost w F G n x B) := by
  obtain ⟨hs, hc5, hfin, hrb, hra⟩ := does_start (k := kk) (c := c) (T := 104) P
  have hN := hid P.ok
  have hB0 := P.b0
  have hB1 := P.b1
  have hlb := P.lb
  have hla := P.la
  have hm0 := P.m0
  have hm1 := P.m1
  obtain ⟨q0, q1, q2, q3, q4⟩ := hc5 _ (Keeps.refl _ _)
  have HS := hid hs
  have HC5 := hid hc5
  have HF := hid hfin
  have HRB := hid hrb
  have HRA := hid hra
  obtain ⟨k1, k2, k3, k4, k5, k6, k7, k8, k9, k10, k11, k12⟩ := hk
  clear P hs hc5 hfin hrb hra
  go_enter Try.func59, Try.ntmps59
  go_wp2_with fail
  go_ret
  exact ⟨rfl, N, hN.out.mono (by omega), HF.out _ _ HS.out⟩
end Go.Proofs.Ytkeffebcmajhmaa
