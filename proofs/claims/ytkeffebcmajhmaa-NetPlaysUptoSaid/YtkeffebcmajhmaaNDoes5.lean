/- The law's does by contract, Close. -/
import Derived.Test.YtkeffebcmajhmaaNDoes4
namespace Go.Proofs.Ytkeffebcmajhmaa
open Go.RowKit
set_option linter.unusedVariables false
set_option linter.unusedSimpArgs false
set_option maxRecDepth 100000 in
set_option maxHeartbeats 8000000 in
theorem does_11 (w : World) (F G : List Nat) (n x : Nat) (N : NS) (B c m : Int) (bv : Value) (b : List Int) (av : Value) (a : List Int) (P : DoesPre w F G n x N B m bv b av a) :
    Calls Try.prog 59 #[.pointer (some ⟨n, 0, none⟩), .pointer (some ⟨x, 0, none⟩), .agg #[.int .i64 11, .int .i64 c, .int .i64 m, bv, av]] w (DoesPost w F G n x B) := by
  obtain ⟨hs, hc5, hfin, hrb, hra⟩ := does_start (k := 11) (c := c) (T := 104) P
  have hN := hid P.ok
  have hB0 := P.b0
  have hB1 := P.b1
  have hlb := P.lb
  have hla := P.la
  have hm0 := P.m0
  have hm1 := P.m1
  obtain ⟨q0, q1, q2, q3, q4⟩ := hc5 _ (Keeps.refl _ _)
  have HS := hid hs
  have HC5 := hid hc5
  have HF := hid hfin
  have HRB := hid hrb
  have HRA := hid hra
  clear P hs hc5 hfin hrb hra
  obtain ⟨R, hR⟩ : ∃ R, closeN N [c, m, c] = R := ⟨_, rfl⟩
  have hok := okN_close [c, m, c] hN.out
  rw [hR] at hok
  have HOK := hid hok
  have HR := hid hR
  clear hok hR
  obtain ⟨N2, r1⟩ := R
  go_enter Try.func59, Try.ntmps59
  go_wp2_with fail
  obtain ⟨w1, hw1⟩ : ∃ x, w.alloc (.cells #[.int .i64 11, .int .i64 c, .int .i64 m, bv, av] 104) = x := ⟨_, rfl⟩
  rw [hw1] at HS HC5 HF HRB HRA q0 q1 q2 q3 q4 ⊢
  clear hw1
  obtain ⟨F1, G1, a1, a2, a3, a4, a5, a6⟩ := HS.out
  have H1 := hid (⟨a1, a2, a3, a4, a5⟩ : _ ∧ _ ∧ _ ∧ _ ∧ _)
  clear a1 a2 a3 a4 a5 a6
  obtain ⟨S, hSe⟩ : ∃ S : World → Prop, ∀ w', S w' ↔ C5 w.heap.size 11 c m bv av w' := ⟨_, fun _ => Iff.rfl⟩
  have hSk : ∀ W, Keeps (F ++ G) w1 W → S W := fun W hW => (hSe _).2 (HC5.out W hW)
  refine wp_region_held_drew (S := S) (by kernel_rfl) (hSk _ ((Keeps.refl _ w1).drew)) (fun hHeld => ?_)
  refine wpAnyH_take (i := 0) (v := ?_) rfl (by kernel_rfl) (by kernel_rfl) (by kernel_rfl) (fun _ _ _ h => h) ?_ (by assumption) ?_
  rotate_left 1
  · first | (apply Or.inl; constructor; rfl; intro W hSw; obtain ⟨s0', s1', s2', s3', s4'⟩ := (hSe W).1 hSw; go_simp; try (with_reducible rfl)) | (apply Or.inr; constructor; rfl; rfl)
  try simp only [Act.put, List.getElem_toArray, List.getElem_cons_succ, List.getElem_cons_zero, List.setIfInBounds_toArray, List.set_cons_zero, List.set_cons_succ]
  refine wpAnyH_take (i := 1) (v := ?_) rfl (by kernel_rfl) (by kernel_rfl) (by kernel_rfl) (fun _ _ _ h => h) ?_ (by assumption) ?_
  rotate_left 1
  · first | (apply Or.inl; constructor; rfl; intro W hSw; obtain ⟨s0', s1', s2', s3', s4'⟩ := (hSe W).1 hSw; go_simp; try (with_reducible rfl)) | (apply Or.inr; constructor; rfl; rfl)
  try simp only [Act.put, List.getElem_toArray, List.getElem_cons_succ, List.getElem_cons_zero, List.setIfInBounds_toArray, List.set_cons_zero, List.set_cons_succ]
  refine wpAnyH_take (i := 2) (v := ?_) rfl (by kernel_rfl) (by kernel_rfl) (by kernel_rfl) (fun _ _ _ h => h) ?_ (by assumption) ?_
  rotate_left 1
  · first | (apply Or.inl; constructor; rfl; intro W hSw; obtain ⟨s0', s1', s2', s3', s4'⟩ := (hSe W).1 hSw; go_simp; try (with_reducible rfl)) | (apply Or.inr; constructor; rfl; rfl)
  try simp only [Act.put, List.getElem_toArray, List.getElem_cons_succ, List.getElem_cons_zero, List.setIfInBounds_toArray, List.set_cons_zero, List.set_cons_succ]
  refine wpAnyH_take (i := 3) (v := ?_) rfl (by kernel_rfl) (by kernel_rfl) (by kernel_rfl) (fun _ _ _ h => h) ?_ (by assumption) ?_
  rotate_left 1
  · first | (apply Or.inl; constructor; rfl; intro W hSw; obtain ⟨s0', s1', s2', s3', s4'⟩ := (hSe W).1 hSw; go_simp; try (with_reducible rfl)) | (apply Or.inr; constructor; rfl; rfl)
  try simp only [Act.put, List.getElem_toArray, List.getElem_cons_succ, List.getElem_cons_zero, List.setIfInBounds_toArray, List.set_cons_zero, List.set_cons_succ]
  refine wpAnyH_take (i := 4) (v := ?_) rfl (by kernel_rfl) (by kernel_rfl) (by kernel_rfl) (fun _ _ _ h => h) ?_ (by assumption) ?_
  rotate_left 1
  · first | (apply Or.inl; constructor; rfl; intro W hSw; obtain ⟨s0', s1', s2', s3', s4'⟩ := (hSe W).1 hSw; go_simp; try (with_reducible rfl)) | (apply Or.inr; constructor; rfl; rfl)
  try simp only [Act.put, List.getElem_toArray, List.getElem_cons_succ, List.getElem_cons_zero, List.setIfInBounds_toArray, List.set_cons_zero, List.set_cons_succ]
  refine wpAnyH_take (i := 5) (v := ?_) rfl (by kernel_rfl) (by kernel_rfl) (by kernel_rfl) (fun _ _ _ h => h) ?_ (by assumption) ?_
  rotate_left 1
  · first | (apply Or.inl; constructor; rfl; intro W hSw; obtain ⟨s0', s1', s2', s3', s4'⟩ := (hSe W).1 hSw; go_simp; try (with_reducible rfl)) | (apply Or.inr; constructor; rfl; rfl)
  try simp only [Act.put, List.getElem_toArray, List.getElem_cons_succ, List.getElem_cons_zero, List.setIfInBounds_toArray, List.set_cons_zero, List.set_cons_succ]
  refine wpAnyH_take (i := 6) (v := ?_) rfl (by kernel_rfl) (by kernel_rfl) (by kernel_rfl) (fun _ _ _ h => h) ?_ (by assumption) ?_
  rotate_left 1
  · first | (apply Or.inl; constructor; rfl; intro W hSw; obtain ⟨s0', s1', s2', s3', s4'⟩ := (hSe W).1 hSw; go_simp; try (with_reducible rfl)) | (apply Or.inr; constructor; rfl; rfl)
  try simp only [Act.put, List.getElem_toArray, List.getElem_cons_succ, List.getElem_cons_zero, List.setIfInBounds_toArray, List.set_cons_zero, List.set_cons_succ]
  refine wpAnyH_take (i := 9) (v := ?_) rfl (by kernel_rfl) (by kernel_rfl) (by kernel_rfl) (fun _ _ _ h => h) ?_ (by assumption) ?_
  rotate_left 1
  · first | (apply Or.inl; constructor; rfl; intro W hSw; obtain ⟨s0', s1', s2', s3', s4'⟩ := (hSe W).1 hSw; go_simp; try (with_reducible rfl)) | (apply Or.inr; constructor; rfl; rfl)
  try simp only [Act.put, List.getElem_toArray, List.getElem_cons_succ, List.getElem_cons_zero, List.setIfInBounds_toArray, List.set_cons_zero, List.set_cons_succ]
  refine wpAnyH_take (i := 10) (v := ?_) rfl (by kernel_rfl) (by kernel_rfl) (by kernel_rfl) (fun _ _ _ h => h) ?_ (by assumption) ?_
  rotate_left 1
  · first | (apply Or.inl; constructor; rfl; intro W hSw; obtain ⟨s0', s1', s2', s3', s4'⟩ := (hSe W).1 hSw; go_simp; try (with_reducible rfl)) | (apply Or.inr; constructor; rfl; rfl)
  try simp only [Act.put, List.getElem_toArray, List.getElem_cons_succ, List.getElem_cons_zero, List.setIfInBounds_toArray, List.set_cons_zero, List.set_cons_succ]
  refine wpAnyH_take (i := 11) (v := ?_) rfl (by kernel_rfl) (by kernel_rfl) (by kernel_rfl) (fun _ _ _ h => h) ?_ (by assumption) ?_
  rotate_left 1
  · first | (apply Or.inl; constructor; rfl; intro W hSw; obtain ⟨s0', s1', s2', s3', s4'⟩ := (hSe W).1 hSw; go_simp; try (with_reducible rfl)) | (apply Or.inr; constructor; rfl; rfl)
  try simp only [Act.put, List.getElem_toArray, List.getElem_cons_succ, List.getElem_cons_zero, List.setIfInBounds_toArray, List.set_cons_zero, List.set_cons_succ]
  refine wpAnyH_take (i := 12) (v := ?_) rfl (by kernel_rfl) (by kernel_rfl) (by kernel_rfl) (fun _ _ _ h => h) ?_ (by assumption) ?_
  rotate_left 1
  · first | (apply Or.inl; constructor; rfl; intro W hSw; obtain ⟨s0', s1', s2', s3', s4'⟩ := (hSe W).1 hSw; go_simp; try (with_reducible rfl)) | (apply Or.inr; constructor; rfl; rfl)
  try simp only [Act.put, List.getElem_toArray, List.getElem_cons_succ, List.getElem_cons_zero, List.setIfInBounds_toArray, List.set_cons_zero, List.set_cons_succ]
  refine wpAnyH_take (i := 13) (v := ?_) rfl (by kernel_rfl) (by kernel_rfl) (by kernel_rfl) (fun _ _ _ h => h) ?_ (by assumption) ?_
  rotate_left 1
  · first | (apply Or.inl; constructor; rfl; intro W hSw; obtain ⟨s0', s1', s2', s3', s4'⟩ := (hSe W).1 hSw; go_simp; try (with_reducible rfl)) | (apply Or.inr; constructor; rfl; rfl)
  try simp only [Act.put, List.getElem_toArray, List.getElem_cons_succ, List.getElem_cons_zero, List.setIfInBounds_toArray, List.set_cons_zero, List.set_cons_succ]
  refine wpAnyH_take (i := 14) (v := ?_) rfl (by kernel_rfl) (by kernel_rfl) (by kernel_rfl) (fun _ _ _ h => h) ?_ (by assumption) ?_
  rotate_left 1
  · first | (apply Or.inl; constructor; rfl; intro W hSw; obtain ⟨s0', s1', s2', s3', s4'⟩ := (hSe W).1 hSw; go_simp; try (with_reducible rfl)) | (apply Or.inr; constructor; rfl; rfl)
  try simp only [Act.put, List.getElem_toArray, List.getElem_cons_succ, List.getElem_cons_zero, List.setIfInBounds_toArray, List.set_cons_zero, List.set_cons_succ]
  refine wpAnyH_take (i := 15) (v := ?_) rfl (by kernel_rfl) (by kernel_rfl) (by kernel_rfl) (fun _ _ _ h => h) ?_ (by assumption) ?_
  rotate_left 1
  · first | (apply Or.inl; constructor; rfl; intro W hSw; obtain ⟨s0', s1', s2', s3', s4'⟩ := (hSe W).1 hSw; go_simp; try (with_reducible rfl)) | (apply Or.inr; constructor; rfl; rfl)
  try simp only [Act.put, List.getElem_toArray, List.getElem_cons_succ, List.getElem_cons_zero, List.setIfInBounds_toArray, List.set_cons_zero, List.set_cons_succ]
  refine wpAnyH_ready (rs := [7, 16]) (by kernel_rfl) (by simp) ?_
  refine AllReadyH.cons rfl (fun K hK => ?_) (AllReadyH.cons rfl (fun K hK => ?_) AllReadyH.nil)
  · go_simp
    refine hK.out _ _ (hSk _ (by (repeat (first | exact (Keeps.refl _ w1) | apply Keeps.drew | apply Keeps.alloc)))) (fun hHeld => ?_)
    clear hK K
    refine wpAnyH_ready (rs := [8, 16]) (by kernel_rfl) (by simp) ?_
    refine AllReadyH.cons rfl (fun K hK => ?_) (AllReadyH.cons rfl (fun K hK => ?_) AllReadyH.nil)
    · go_simp
      obtain ⟨a1, a2, a3, a4, a5⟩ := H1.out
      have hkW : Keeps [] w1 (w1.drew.alloc (.cells #[.int .i64 c, .int .i64 m, .int .i64 c] 3)) := (by (repeat (first | exact (Keeps.refl _ w1) | apply Keeps.drew | apply Keeps.alloc)))
      have hcl : CellsIn (w1.drew.alloc (.cells #[.int .i64 c, .int .i64 m, .int .i64 c] 3)) F1 (.slice (some ⟨w1.drew.heap.size, 0, none⟩) 3 3) ([c, m, c].map (.int .i64)) := by
        have h := CellsIn.newM w1.drew F1 [.int .i64 c, .int .i64 m, .int .i64 c] 3 (0, 0) (fun k hk => by have h1 := a1.flt k hk; have h2 : w1.heap.size ≤ w1.drew.heap.size := (show Keeps [] w1 w1.drew from (by (repeat (first | exact (Keeps.refl _ w1) | apply Keeps.drew | apply Keeps.alloc)))).size; omega) (by simp)
        exact (by simpa using h)
      refine (close_any n F1 N B _ [c, m, c] (w1.drew.alloc (.cells #[.int .i64 c, .int .i64 m, .int .i64 c] 3)) (a1.keeps hkW (by simp)) hN.out (by simpa using hcl) (by simp)).mono ?_
      rw [HR.out]
      rintro e w2 ⟨rfl, ⟨F2, d1, d2⟩, d3⟩
      have k12 : Keeps (F ++ G) w1 w2 := (hkW.mono (by simp)).trans d3 (fun g hg => by rcases a3 g hg with e | e; exact .inl (by simp [e]); exact .inr e)
      have hc2 := (a2.keeps hkW (by simp)).keeps d3 (fun k hk hx => a5 k hx hk)
      refine hK.out _ _ (hSk _ k12) (fun hHeld => ?_)
      clear hK K hcl
      refine wpAnyH_ready (rs := [16]) (by kernel_rfl) (by simp) ?_
      refine AllReadyH.cons rfl (fun K hK => ?_) AllReadyH.nil
      · go_simp
        refine hK.out _ _ (hSk _ (k12.alloc _)) (fun hHeld => ?_)
        clear hK K
        refine wpAnyH_ready (rs := [17]) (by kernel_rfl) (by simp) ?_
        refine AllReadyH.cons rfl (fun K hK => ?_) AllReadyH.nil
        · go_simp
          have hkV : Keeps [] w2 (w2.alloc (.cells #[.int .i64 c, .int .i64 m, .int .i64 c] 3)) := (by (repeat (first | exact (Keeps.refl _ w2) | apply Keeps.drew | apply Keeps.alloc)))
          have hcl : CellsIn (w2.alloc (.cells #[.int .i64 c, .int .i64 m, .int .i64 c] 3)) G1 (.slice (some ⟨w2.heap.size, 0, none⟩) 3 3) ([c, m, c].map (.int .i64)) := by
            have h := CellsIn.newM w2 G1 [.int .i64 c, .int .i64 m, .int .i64 c] 3 (0, 0) (fun k hk => hc2.flt k hk) (by simp)
            exact (by simpa using h)
          refine (rclose_any x G1 N B _ [c, m, c] (w2.alloc (.cells #[.int .i64 c, .int .i64 m, .int .i64 c] 3)) (hc2.keeps hkV (by simp)) hN.out (by simpa using hcl) (by simp)).mono ?_
          rw [HR.out]
          rintro e w3 ⟨rfl, ⟨G2, f1, f2⟩, f3⟩
          have hz2 := d3.size
          have hzW := hkW.size
          have hzV := hkV.size
          obtain ⟨t1, t2, t3, t4⟩ := two_foot a1 a2 a3 a4 a5 hzW d1 d2 hzV (by omega) f2
          have hend : NB w1 F G n x N2 N2 w3 := ⟨F2, G2, (d1.keeps hkV (by simp)).keeps f3 t4, f1, t1, t2, t3, (k12.trans hkV (by simp)).trans f3 (fun g hg => by rcases a4 g hg with e | e; exact .inl (by simp [e]); exact .inr e)⟩
          refine hK.out _ _ (hSk _ hend.keepsW) (fun hHeld => ?_)
          clear hK K
          refine wpAnyH_take (i := 18) (v := ?_) rfl (by kernel_rfl) (by kernel_rfl) (by kernel_rfl) (fun _ _ _ h => h) ?_ (by assumption) ?_
          rotate_left 1
          · first | (apply Or.inl; constructor; rfl; intro W hSw; obtain ⟨s0', s1', s2', s3', s4'⟩ := (hSe W).1 hSw; go_simp; try (with_reducible rfl)) | (apply Or.inr; constructor; rfl; rfl)
          try simp only [Act.put, List.getElem_toArray, List.getElem_cons_succ, List.getElem_cons_zero, List.setIfInBounds_toArray, List.set_cons_zero, List.set_cons_succ]
          refine wpAnyH_take (i := 19) (v := ?_) rfl (by kernel_rfl) (by kernel_rfl) (by kernel_rfl) (fun _ _ _ h => h) ?_ (by assumption) ?_
          rotate_left 1
          · first | (apply Or.inl; constructor; rfl; intro W hSw; obtain ⟨s0', s1', s2', s3', s4'⟩ := (hSe W).1 hSw; go_simp; try (with_reducible rfl)) | (apply Or.inr; constructor; rfl; rfl)
          try simp only [Act.put, List.getElem_toArray, List.getElem_cons_succ, List.getElem_cons_zero, List.setIfInBounds_toArray, List.set_cons_zero, List.set_cons_succ]
          refine wpAnyH_done (by kernel_rfl) ?_ _
          go_wp2_with fail
          go_ret
          exact ⟨by simp, N2, HOK.out.mono (by omega), HF.out _ _ hend⟩
    · go_simp
      refine hK.out _ _ (hSk _ (by (repeat (first | exact (Keeps.refl _ w1) | apply Keeps.drew | apply Keeps.alloc)))) (fun hHeld => ?_)
      clear hK K
      refine wpAnyH_ready (rs := [8]) (by kernel_rfl) (by simp) ?_
      refine AllReadyH.cons rfl (fun K hK => ?_) AllReadyH.nil
      · go_simp
        obtain ⟨a1, a2, a3, a4, a5⟩ := H1.out
        have hkW : Keeps [] w1 ((w1.drew.alloc (.cells #[.int .i64 c, .int .i64 m, .int .i64 c] 3)).alloc (.cells #[.int .i64 c, .int .i64 m, .int .i64 c] 3)) := (by (repeat (first | exact (Keeps.refl _ w1) | apply Keeps.drew | apply Keeps.alloc)))
        have hcl : CellsIn ((w1.drew.alloc (.cells #[.int .i64 c, .int .i64 m, .int .i64 c] 3)).alloc (.cells #[.int .i64 c, .int .i64 m, .int .i64 c] 3)) F1 (.slice (some ⟨w1.drew.heap.size, 0, none⟩) 3 3) ([c, m, c].map (.int .i64)) := by
          have h := CellsIn.newM w1.drew F1 [.int .i64 c, .int .i64 m, .int .i64 c] 3 (0, 0) (fun k hk => by have h1 := a1.flt k hk; have h2 : w1.heap.size ≤ w1.drew.heap.size := (show Keeps [] w1 w1.drew from (by (repeat (first | exact (Keeps.refl _ w1) | apply Keeps.drew | apply Keeps.alloc)))).size; omega) (by simp)
          exact (by simpa using h.alloc (.cells #[.int .i64 c, .int .i64 m, .int .i64 c] 3))
        refine (close_any n F1 N B _ [c, m, c] ((w1.drew.alloc (.cells #[.int .i64 c, .int .i64 m, .int .i64 c] 3)).alloc (.cells #[.int .i64 c, .int .i64 m, .int .i64 c] 3)) (a1.keeps hkW (by simp)) hN.out (by simpa using hcl) (by simp)).mono ?_
        rw [HR.out]
        rintro e w2 ⟨rfl, ⟨F2, d1, d2⟩, d3⟩
        have k12 : Keeps (F ++ G) w1 w2 := (hkW.mono (by simp)).trans d3 (fun g hg => by rcases a3 g hg with e | e; exact .inl (by simp [e]); exact .inr e)
        have hc2 := (a2.keeps hkW (by simp)).keeps d3 (fun k hk hx => a5 k hx hk)
        refine hK.out _ _ (hSk _ k12) (fun hHeld => ?_)
        clear hK K hcl
        have hclb : CellsIn w2 G1 (.slice (some ⟨(w1.drew.alloc (.cells #[.int .i64 c, .int .i64 m, .int .i64 c] 3)).heap.size, 0, none⟩) 3 3) ([c, m, c].map (.int .i64)) := by
          have h := CellsIn.newM (w1.drew.alloc (.cells #[.int .i64 c, .int .i64 m, .int .i64 c] 3)) (F1 ++ G1) [.int .i64 c, .int .i64 m, .int .i64 c] 3 (0, 0) (fun k hk => by have h1 : k < w1.heap.size := (by rcases List.mem_append.1 hk with e | e; exact a1.flt k e; exact a2.flt k e); have h2 : w1.heap.size ≤ (w1.drew.alloc (.cells #[.int .i64 c, .int .i64 m, .int .i64 c] 3)).heap.size := (show Keeps [] w1 (w1.drew.alloc (.cells #[.int .i64 c, .int .i64 m, .int .i64 c] 3)) from (by (repeat (first | exact (Keeps.refl _ w1) | apply Keeps.drew | apply Keeps.alloc)))).size; omega) (by simp)
          have h9 := h
          exact (by simpa using (h9.keeps d3 (fun k hk => .inl (by simp [hk]))).mono (by simp +contextual))
        refine wpAnyH_ready (rs := [17]) (by kernel_rfl) (by simp) ?_
        refine AllReadyH.cons rfl (fun K hK => ?_) AllReadyH.nil
        · go_simp
          have hkV : Keeps [] w2 w2 := (by (repeat (first | exact (Keeps.refl _ w2) | apply Keeps.drew | apply Keeps.alloc)))
          have hcl := hclb
          refine (rclose_any x G1 N B _ [c, m, c] w2 (hc2.keeps hkV (by simp)) hN.out (by simpa using hcl) (by simp)).mono ?_
          rw [HR.out]
          rintro e w3 ⟨rfl, ⟨G2, f1, f2⟩, f3⟩
          have hz2 := d3.size
          have hzW := hkW.size
          have hzV := hkV.size
          obtain ⟨t1, t2, t3, t4⟩ := two_foot a1 a2 a3 a4 a5 hzW d1 d2 hzV (by omega) f2
          have hend : NB w1 F G n x N2 N2 w3 := ⟨F2, G2, (d1.keeps hkV (by simp)).keeps f3 t4, f1, t1, t2, t3, (k12.trans hkV (by simp)).trans f3 (fun g hg => by rcases a4 g hg with e | e; exact .inl (by simp [e]); exact .inr e)⟩
          refine hK.out _ _ (hSk _ hend.keepsW) (fun hHeld => ?_)
          clear hK K
          refine wpAnyH_take (i := 18) (v := ?_) rfl (by kernel_rfl) (by kernel_rfl) (by kernel_rfl) (fun _ _ _ h => h) ?_ (by assumption) ?_
          rotate_left 1
          · first | (apply Or.inl; constructor; rfl; intro W hSw; obtain ⟨s0', s1', s2', s3', s4'⟩ := (hSe W).1 hSw; go_simp; try (with_reducible rfl)) | (apply Or.inr; constructor; rfl; rfl)
          try simp only [Act.put, List.getElem_toArray, List.getElem_cons_succ, List.getElem_cons_zero, List.setIfInBounds_toArray, List.set_cons_zero, List.set_cons_succ]
          refine wpAnyH_take (i := 19) (v := ?_) rfl (by kernel_rfl) (by kernel_rfl) (by kernel_rfl) (fun _ _ _ h => h) ?_ (by assumption) ?_
          rotate_left 1
          · first | (apply Or.inl; constructor; rfl; intro W hSw; obtain ⟨s0', s1', s2', s3', s4'⟩ := (hSe W).1 hSw; go_simp; try (with_reducible rfl)) | (apply Or.inr; constructor; rfl; rfl)
          try simp only [Act.put, List.getElem_toArray, List.getElem_cons_succ, List.getElem_cons_zero, List.setIfInBounds_toArray, List.set_cons_zero, List.set_cons_succ]
          refine wpAnyH_done (by kernel_rfl) ?_ _
          go_wp2_with fail
          go_ret
          exact ⟨by simp, N2, HOK.out.mono (by omega), HF.out _ _ hend⟩
  · go_simp
    refine hK.out _ _ (hSk _ (by (repeat (first | exact (Keeps.refl _ w1) | apply Keeps.drew | apply Keeps.alloc)))) (fun hHeld => ?_)
    clear hK K
    refine wpAnyH_ready (rs := [7]) (by kernel_rfl) (by simp) ?_
    refine AllReadyH.cons rfl (fun K hK => ?_) AllReadyH.nil
    · go_simp
      refine hK.out _ _ (hSk _ (by (repeat (first | exact (Keeps.refl _ w1) | apply Keeps.drew | apply Keeps.alloc)))) (fun hHeld => ?_)
      clear hK K
      refine wpAnyH_ready (rs := [8]) (by kernel_rfl) (by simp) ?_
      refine AllReadyH.cons rfl (fun K hK => ?_) AllReadyH.nil
      · go_simp
        obtain ⟨a1, a2, a3, a4, a5⟩ := H1.out
        have hkW : Keeps [] w1 ((w1.drew.alloc (.cells #[.int .i64 c, .int .i64 m, .int .i64 c] 3)).alloc (.cells #[.int .i64 c, .int .i64 m, .int .i64 c] 3)) := (by (repeat (first | exact (Keeps.refl _ w1) | apply Keeps.drew | apply Keeps.alloc)))
        have hcl : CellsIn ((w1.drew.alloc (.cells #[.int .i64 c, .int .i64 m, .int .i64 c] 3)).alloc (.cells #[.int .i64 c, .int .i64 m, .int .i64 c] 3)) F1 (.slice (some ⟨(w1.drew.alloc (.cells #[.int .i64 c, .int .i64 m, .int .i64 c] 3)).heap.size, 0, none⟩) 3 3) ([c, m, c].map (.int .i64)) := by
          have h := CellsIn.newM (w1.drew.alloc (.cells #[.int .i64 c, .int .i64 m, .int .i64 c] 3)) F1 [.int .i64 c, .int .i64 m, .int .i64 c] 3 (0, 0) (fun k hk => by have h1 := a1.flt k hk; have h2 : w1.heap.size ≤ (w1.drew.alloc (.cells #[.int .i64 c, .int .i64 m, .int .i64 c] 3)).heap.size := (show Keeps [] w1 (w1.drew.alloc (.cells #[.int .i64 c, .int .i64 m, .int .i64 c] 3)) from (by (repeat (first | exact (Keeps.refl _ w1) | apply Keeps.drew | apply Keeps.alloc)))).size; omega) (by simp)
          exact (by simpa using h)
        refine (close_any n F1 N B _ [c, m, c] ((w1.drew.alloc (.cells #[.int .i64 c, .int .i64 m, .int .i64 c] 3)).alloc (.cells #[.int .i64 c, .int .i64 m, .int .i64 c] 3)) (a1.keeps hkW (by simp)) hN.out (by simpa using hcl) (by simp)).mono ?_
        rw [HR.out]
        rintro e w2 ⟨rfl, ⟨F2, d1, d2⟩, d3⟩
        have k12 : Keeps (F ++ G) w1 w2 := (hkW.mono (by simp)).trans d3 (fun g hg => by rcases a3 g hg with e | e; exact .inl (by simp [e]); exact .inr e)
        have hc2 := (a2.keeps hkW (by simp)).keeps d3 (fun k hk hx => a5 k hx hk)
        refine hK.out _ _ (hSk _ k12) (fun hHeld => ?_)
        clear hK K hcl
        have hclb : CellsIn w2 G1 (.slice (some ⟨w1.drew.heap.size, 0, none⟩) 3 3) ([c, m, c].map (.int .i64)) := by
          have h := CellsIn.newM w1.drew (F1 ++ G1) [.int .i64 c, .int .i64 m, .int .i64 c] 3 (0, 0) (fun k hk => by have h1 : k < w1.heap.size := (by rcases List.mem_append.1 hk with e | e; exact a1.flt k e; exact a2.flt k e); have h2 : w1.heap.size ≤ w1.drew.heap.size := (show Keeps [] w1 w1.drew from (by (repeat (first | exact (Keeps.refl _ w1) | apply Keeps.drew | apply Keeps.alloc)))).size; omega) (by simp)
          have h9 := h.alloc (.cells #[.int .i64 c, .int .i64 m, .int .i64 c] 3)
          exact (by simpa using (h9.keeps d3 (fun k hk => .inl (by simp [hk]))).mono (by simp +contextual))
        refine wpAnyH_ready (rs := [17]) (by kernel_rfl) (by simp) ?_
        refine AllReadyH.cons rfl (fun K hK => ?_) AllReadyH.nil
        · go_simp
          have hkV : Keeps [] w2 w2 := (by (repeat (first | exact (Keeps.refl _ w2) | apply Keeps.drew | apply Keeps.alloc)))
          have hcl := hclb
          refine (rclose_any x G1 N B _ [c, m, c] w2 (hc2.keeps hkV (by simp)) hN.out (by simpa using hcl) (by simp)).mono ?_
          rw [HR.out]
          rintro e w3 ⟨rfl, ⟨G2, f1, f2⟩, f3⟩
          have hz2 := d3.size
          have hzW := hkW.size
          have hzV := hkV.size
          obtain ⟨t1, t2, t3, t4⟩ := two_foot a1 a2 a3 a4 a5 hzW d1 d2 hzV (by omega) f2
          have hend : NB w1 F G n x N2 N2 w3 := ⟨F2, G2, (d1.keeps hkV (by simp)).keeps f3 t4, f1, t1, t2, t3, (k12.trans hkV (by simp)).trans f3 (fun g hg => by rcases a4 g hg with e | e; exact .inl (by simp [e]); exact .inr e)⟩
          refine hK.out _ _ (hSk _ hend.keepsW) (fun hHeld => ?_)
          clear hK K
          refine wpAnyH_take (i := 18) (v := ?_) rfl (by kernel_rfl) (by kernel_rfl) (by kernel_rfl) (fun _ _ _ h => h) ?_ (by assumption) ?_
          rotate_left 1
          · first | (apply Or.inl; constructor; rfl; intro W hSw; obtain ⟨s0', s1', s2', s3', s4'⟩ := (hSe W).1 hSw; go_simp; try (with_reducible rfl)) | (apply Or.inr; constructor; rfl; rfl)
          try simp only [Act.put, List.getElem_toArray, List.getElem_cons_succ, List.getElem_cons_zero, List.setIfInBounds_toArray, List.set_cons_zero, List.set_cons_succ]
          refine wpAnyH_take (i := 19) (v := ?_) rfl (by kernel_rfl) (by kernel_rfl) (by kernel_rfl) (fun _ _ _ h => h) ?_ (by assumption) ?_
          rotate_left 1
          · first | (apply Or.inl; constructor; rfl; intro W hSw; obtain ⟨s0', s1', s2', s3', s4'⟩ := (hSe W).1 hSw; go_simp; try (with_reducible rfl)) | (apply Or.inr; constructor; rfl; rfl)
          try simp only [Act.put, List.getElem_toArray, List.getElem_cons_succ, List.getElem_cons_zero, List.setIfInBounds_toArray, List.set_cons_zero, List.set_cons_succ]
          refine wpAnyH_done (by kernel_rfl) ?_ _
          go_wp2_with fail
          go_ret
          exact ⟨by simp, N2, HOK.out.mono (by omega), HF.out _ _ hend⟩
end Go.Proofs.Ytkeffebcmajhmaa
