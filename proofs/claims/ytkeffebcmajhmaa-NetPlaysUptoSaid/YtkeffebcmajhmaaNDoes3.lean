/- The law's does by contract, Read and Write. -/
import Derived.Test.YtkeffebcmajhmaaNDoes2
namespace Go.Proofs.Ytkeffebcmajhmaa
open Go.RowKit
set_option linter.unusedVariables false
set_option linter.unusedSimpArgs false
theorem CellsIn.laterN {w : World} {F F' : List Nat} {v : Value} {xs : List Value} (h : CellsIn w F v xs) (hF : ∀ k ∈ F', k ∈ F ∨ w.heap.size ≤ k) : CellsIn w F' v xs := by
  obtain ⟨A, c, hv, h1, h2, h3⟩ := h
  refine ⟨A, c, hv, h1, h2, fun hp => ?_⟩
  obtain ⟨b, o, hA, hb, hc⟩ := h3 hp
  refine ⟨b, o, hA, fun hx => ?_, hc⟩
  rcases hF b hx with e | e
  · exact hb e
  · have := World.block_lt_of_cell? w _ (hc 0 _ (List.getElem?_eq_getElem hp))
    simp only at this
    omega
theorem readN_len {N : NS} {B : Int} (h : OkN N B) (c m : Int) : (readN N c m).2.1.length ≤ 1024 := by
  unfold readN
  split
  · simp
  · unfold onConn
    split
    · simp
    · rename_i i d hd
      unfold cnAt at hd
      split at hd
      · obtain ⟨d0, h0, h1⟩ := Option.map_eq_some_iff.1 hd
        injection h1 with h1 h2
        subst h1 h2
        have hin := (h.cn d0 (List.mem_of_getElem? h0)).inn
        unfold readD
        split
        · split
          · simp
          · simp only [List.length_take]
            omega
        · simp
      · cases hd
/-- the two footprints behind two calls, the program's first. -/
theorem two_foot {w1 w2 w2' w3 : World} {F G F1 G1 F2 G2 : List Nat} {n x : Nat} {N N2 : NS} (a1 : NRep pc w1 n F1 N) (a2 : NRep rc w1 x G1 N) (a3 : LaterF F w1 F1) (a4 : LaterF G w1 G1) (a5 : ∀ k ∈ F1, k ∉ G1) (hz : w1.heap.size ≤ w2.heap.size) (d1 : NRep pc w2' n F2 N2) (d2 : LaterF F1 w2 F2) (hz2 : w2'.heap.size ≤ w3.heap.size) (hz3 : w1.heap.size ≤ w3.heap.size) (f2 : LaterF G1 w3 G2) : LaterF F w1 F2 ∧ LaterF G w1 G2 ∧ (∀ k ∈ F2, k ∉ G2) ∧ (∀ k ∈ F2, k ∉ G1) := by
  have hg : ∀ k ∈ F2, k ∉ G1 := fun k hk hx => by
    rcases d2 k hk with e | e
    · exact a5 k e hx
    · have := a2.flt k hx
      omega
  refine ⟨fun k hk => ?_, fun k hk => ?_, fun k hk hx => ?_, hg⟩
  · rcases d2 k hk with e | e
    · exact a3 k e
    · exact .inr (by omega)
  · rcases f2 k hk with e | e
    · exact a4 k e
    · exact .inr (by omega)
  · rcases f2 k hx with e | e
    · exact hg k hk e
    · have := d1.flt k hk
      omega
set_option maxRecDepth 100000 in
set_option maxHeartbeats 8000000 in
theorem does_8 (w : World) (F G : List Nat) (n x : Nat) (N : NS) (B c m : Int) (bv : Value) (b : List Int) (av : Value) (a : List Int) (P : DoesPre w F G n x N B m bv b av a) :
    Calls Try.prog 59 #[.pointer (some ⟨n, 0, none⟩), .pointer (some ⟨x, 0, none⟩), .agg #[.int .i64 8, .int .i64 c, .int .i64 m, bv, av]] w (DoesPost w F G n x B) := by
  obtain ⟨hs, hc5, hfin, hrb, hra⟩ := does_start (k := 8) (c := c) (T := 104) P
  have hN := hid P.ok
  have hB0 := P.b0
  have hB1 := P.b1
  have hlb := P.lb
  have hla := P.la
  have hm0 := P.m0
  have hm1 := P.m1
  obtain ⟨q0, q1, q2, q3, q4⟩ := hc5 _ (Keeps.refl _ _)
  have HS := hid hs
  have HC5 := hid hc5
  have HF := hid hfin
  have HRB := hid hrb
  have HRA := hid hra
  clear P hs hc5 hfin hrb hra
  have hll := readN_len hN.out c m
  obtain ⟨R, hR⟩ : ∃ R, readN N c m = R := ⟨_, rfl⟩
  have hok := okN_read hN.out c m
  rw [hR] at hok
  have HOK := hid hok
  rw [hR] at hll
  have HR := hid hR
  clear hok hR
  obtain ⟨N2, L, r2⟩ := R
  go_enter Try.func59, Try.ntmps59
  simp only at hll
  go_wp2_with fail
  obtain ⟨w1, hw1⟩ : ∃ x, w.alloc (.cells #[.int .i64 8, .int .i64 c, .int .i64 m, bv, av] 104) = x := ⟨_, rfl⟩
  rw [hw1] at HS HC5 HF HRB HRA q0 q1 q2 q3 q4 ⊢
  clear hw1
  obtain ⟨F1, G1, a1, a2, a3, a4, a5, a6⟩ := HS.out
  refine (read_any n F1 N B c m _ a1 hN.out (by omega) hm1).mono ?_
  unfold ReadPost
  rw [HR.out]
  rintro e w2 ⟨v1, F2, rfl, d1, d2, d3, r1, o1⟩
  have k12 : Keeps (F ++ G) w1 w2 := a6.trans d3 (fun g hg => by rcases a3 g hg with e | e; exact .inl (by simp [e]); exact .inr e)
  have b2 := a2.keeps d3 (fun k hk hx => a5 k hx hk)
  obtain ⟨q0', q1', q2', q3', q4'⟩ := HC5.out _ k12
  have H1 := hid (⟨a1, a2, a3, a4, a5, d1, d2, d3⟩ : _ ∧ _ ∧ _ ∧ _ ∧ _ ∧ _ ∧ _ ∧ _)
  have HB2 := hid b2
  have HR1 := hid r1
  have HO1 := hid o1
  have HK12 := hid k12
  clear a1 a2 a3 a4 a5 a6 d1 d2 d3 b2 r1 o1 k12
  go_wp2_with fail
  refine (rread_any x G1 N B c m _ HB2.out hN.out (by omega) hm1).mono ?_
  unfold ReadPost
  rw [HR.out]
  rintro e w3 ⟨v2, G2, rfl, f1, f2, f3, r2', o2⟩
  obtain ⟨a1, a2, a3, a4, a5, d1, d2, d3⟩ := H1.out
  have hz12 := HK12.out.size
  have hz23 := f3.size
  have hv1 : ∀ k, v1.ownBlock = some k → k ∉ G1 := fun k hk hx => by
    have := (HO1.out k hk).1
    have := a2.flt k hx
    omega
  have hr1 := HR1.out.keeps f3 hv1
  obtain ⟨t1, t2, t3, t4⟩ := two_foot a1 a2 a3 a4 a5 (Nat.le_refl _) d1 d2 (Nat.le_refl _) hz12 f2
  have hd1 := d1.keeps f3 t4
  have k13 : Keeps (F ++ G) w1 w3 := HK12.out.trans f3 (fun g hg => by rcases a4 g hg with e | e; exact .inl (by simp [e]); exact .inr e)
  have hv2 : ∀ k, v1.ownBlock = some k → k ∉ F2 ∧ k ∉ G2 ∧ w1.heap.size ≤ k := fun k hk => by
    refine ⟨(HO1.out k hk).2, fun hx => ?_, (HO1.out k hk).1⟩
    rcases f2 k hx with e | e
    · exact hv1 k hk e
    · have := HR1.out.lt k hk
      omega
  have HE := hid (⟨hd1, f1, t1, t2, t3⟩ : _ ∧ _ ∧ _ ∧ _ ∧ _)
  have HK13 := hid k13
  have HV2 := hid hv2
  have HA := hid hr1
  have HB := hid (Row.cellsIn (F := []) r2' (by simp))
  clear a1 a2 a3 a4 a5 d1 d2 d3 f1 f2 f3 r2' o2 hv1 hr1 hd1 k13 hv2 t1 t2 t3 t4 H1 HB2 HO1 HK12 HR1
  go_wp2_with fail
  refine (nsame_any v1 v2 L L _ (HA.out.cellsIn (by simp)) HB.out).mono ?_
  rw [sameB_self]
  rintro e w4 ⟨rfl, hk4⟩
  have HK4 := hid hk4
  clear hk4
  go_wp2_with fail
  refine (nspoil_any v1 _ _ _ (HA.out.keeps HK4.out (by simp)) (by omega)).mono ?_
  rintro e w5 ⟨⟨r5, rfl⟩, hk5⟩
  have HK5 := hid hk5
  clear hk5
  go_wp2_with fail
  go_ret
  obtain ⟨e1, e2, e3, e4, e5⟩ := HE.out
  exact ⟨by simp, N2, HOK.out.mono (by omega), HF.out _ _ ⟨F2, G2, (e1.keeps HK4.out (by simp)).keeps HK5.out (fun k hk hx => (HV2.out k (by simpa using hx)).1 hk), (e2.keeps HK4.out (by simp)).keeps HK5.out (fun k hk hx => (HV2.out k (by simpa using hx)).2.1 hk), e3, e4, e5, (HK13.out.trans HK4.out (by simp)).trans HK5.out (fun k hk => .inr (HV2.out k (by simpa using hk)).2.2)⟩⟩
set_option maxRecDepth 100000 in
set_option maxHeartbeats 8000000 in
theorem does_9 (w : World) (F G : List Nat) (n x : Nat) (N : NS) (B c m : Int) (bv : Value) (b : List Int) (av : Value) (a : List Int) (P : DoesPre w F G n x N B m bv b av a) :
    Calls Try.prog 59 #[.pointer (some ⟨n, 0, none⟩), .pointer (some ⟨x, 0, none⟩), .agg #[.int .i64 9, .int .i64 c, .int .i64 m, bv, av]] w (DoesPost w F G n x B) := by
  obtain ⟨hs, hc5, hfin, hrb, hra⟩ := does_start (k := 9) (c := c) (T := 104) P
  have hN := hid P.ok
  have hB0 := P.b0
  have hB1 := P.b1
  have hlb := P.lb
  have hla := P.la
  have hm0 := P.m0
  have hm1 := P.m1
  obtain ⟨q0, q1, q2, q3, q4⟩ := hc5 _ (Keeps.refl _ _)
  have HS := hid hs
  have HC5 := hid hc5
  have HF := hid hfin
  have HRB := hid hrb
  have HRA := hid hra
  clear P hs hc5 hfin hrb hra
  obtain ⟨R, hR⟩ : ∃ R, writeN N c b = R := ⟨_, rfl⟩
  have hok := okN_write hN.out c b
  rw [hR] at hok
  have HOK := hid hok
  have HR := hid hR
  clear hok hR
  obtain ⟨N2, r1, r2⟩ := R
  obtain ⟨BA, bc, hbv, hbv1, hbv2⟩ := HRB.out.shape
  rw [bytesV_length] at hbv hbv1
  subst hbv
  obtain ⟨i1, hi1, hy0, hy1, hy2⟩ := info_parts u8_info
  go_enter Try.func59, Try.ntmps59
  go_wp2_with fail
  obtain ⟨w1, hw1⟩ : ∃ x, w.alloc (.cells #[.int .i64 9, .int .i64 c, .int .i64 m, .slice BA b.length bc, av] 104) = x := ⟨_, rfl⟩
  rw [hw1] at HS HC5 HF HRB HRA q0 q1 q2 q3 q4 ⊢
  clear hw1
  refine (nroomy_any (.slice BA b.length bc) b _ (HRB.out.mono (by simp)) (by omega)).mono ?_
  rintro e w2 ⟨A1, c1, rfl, ra1, oa1, ka1⟩
  obtain ⟨F1, G1, a1, a2, a3, a4, a5, a6⟩ := HS.out
  have b1 := a1.keeps ka1 (by simp)
  have b2 := a2.keeps ka1 (by simp)
  have k12 : Keeps (F ++ G) w1 w2 := a6.trans ka1 (by simp)
  obtain ⟨q0', q1', q2', q3', q4'⟩ := HC5.out _ k12
  obtain ⟨_, _, hve, hc1a, hc1b, -, hspot⟩ := ra1.form
  injection hve with hva _ hvc
  subst hva hvc
  have hca : cutA A1 0 c1 1 = A1 := cutA_zero A1 c1 1 (fun ad h => (hspot ad h).1)
  have hsl := fun wx => run_cut_hi (P := Try.prog) wx 66 5 i1 1 Try.underlying66 hi1 hy1 A1 (b.length + 1) c1 b.length (b.length : Int) rfl .i64 (by omega)
  simp only [hca] at hsl
  have hcm : c1 ≤ 9223372036854775807 := by unfold maxLen at hc1b; omega
  have hcl : b.length ≤ c1 := by omega
  have H1 := hid (⟨a1, a2, a3, a4, a5⟩ : _ ∧ _ ∧ _ ∧ _ ∧ _)
  have HB1 := hid b1
  have HB2 := hid b2
  have HK12 := hid k12
  have HKA := hid ka1
  have HRA1 := hid ra1
  have hlt2 := ra1.lt
  have HOA := hid oa1
  have hzA := ka1.size
  clear a1 a2 a3 a4 a5 a6 b1 b2 k12 ka1 ra1 oa1 hspot hca hc1a hc1b
  go_wp2_with fail
  obtain ⟨S, hSe⟩ : ∃ S : World → Prop, ∀ w', S w' ↔ C5 w.heap.size 9 c m (.slice BA b.length bc) av w' := ⟨_, fun _ => Iff.rfl⟩
  have hSk : ∀ W, Keeps (F ++ G) w1 W → S W := fun W hW => (hSe _).2 (HC5.out W hW)
  refine wp_region_held_drew (S := S) (by kernel_rfl) (hSk _ (HK12.out.drew)) (fun hHeld => ?_)
  refine wpAnyH_take (i := 0) (v := ?_) rfl (by kernel_rfl) (by kernel_rfl) (by kernel_rfl) (fun _ _ _ h => h) ?_ (by assumption) ?_
  rotate_left 1
  · first | (apply Or.inl; constructor; rfl; intro W hSw; obtain ⟨s0', s1', s2', s3', s4'⟩ := (hSe W).1 hSw; go_simp; try (with_reducible rfl)) | (apply Or.inr; constructor; rfl; rfl)
  try simp only [Act.put, List.getElem_toArray, List.getElem_cons_succ, List.getElem_cons_zero, List.setIfInBounds_toArray, List.set_cons_zero, List.set_cons_succ]
  refine wpAnyH_take (i := 1) (v := ?_) rfl (by kernel_rfl) (by kernel_rfl) (by kernel_rfl) (fun _ _ _ h => h) ?_ (by assumption) ?_
  rotate_left 1
  · first | (apply Or.inl; constructor; rfl; intro W hSw; obtain ⟨s0', s1', s2', s3', s4'⟩ := (hSe W).1 hSw; go_simp; try (with_reducible rfl)) | (apply Or.inr; constructor; rfl; rfl)
  try simp only [Act.put, List.getElem_toArray, List.getElem_cons_succ, List.getElem_cons_zero, List.setIfInBounds_toArray, List.set_cons_zero, List.set_cons_succ]
  refine wpAnyH_take (i := 2) (v := ?_) rfl (by kernel_rfl) (by kernel_rfl) (by kernel_rfl) (fun _ _ _ h => h) ?_ (by assumption) ?_
  rotate_left 1
  · first | (apply Or.inl; constructor; rfl; intro W hSw; obtain ⟨s0', s1', s2', s3', s4'⟩ := (hSe W).1 hSw; go_simp; try (with_reducible rfl)) | (apply Or.inr; constructor; rfl; rfl)
  try simp only [Act.put, List.getElem_toArray, List.getElem_cons_succ, List.getElem_cons_zero, List.setIfInBounds_toArray, List.set_cons_zero, List.set_cons_succ]
  refine wpAnyH_take (i := 3) (v := ?_) rfl (by kernel_rfl) (by kernel_rfl) (by kernel_rfl) (fun _ _ _ h => h) ?_ (by assumption) ?_
  rotate_left 1
  · first | (apply Or.inl; constructor; rfl; intro W hSw; obtain ⟨s0', s1', s2', s3', s4'⟩ := (hSe W).1 hSw; go_simp; try (with_reducible rfl)) | (apply Or.inr; constructor; rfl; rfl)
  try simp only [Act.put, List.getElem_toArray, List.getElem_cons_succ, List.getElem_cons_zero, List.setIfInBounds_toArray, List.set_cons_zero, List.set_cons_succ]
  refine wpAnyH_take (i := 4) (v := ?_) rfl (by kernel_rfl) (by kernel_rfl) (by kernel_rfl) (fun _ _ _ h => h) ?_ (by assumption) ?_
  rotate_left 1
  · first | (apply Or.inl; constructor; rfl; intro W hSw; obtain ⟨s0', s1', s2', s3', s4'⟩ := (hSe W).1 hSw; go_simp; try (with_reducible rfl)) | (apply Or.inr; constructor; rfl; rfl)
  try simp only [Act.put, List.getElem_toArray, List.getElem_cons_succ, List.getElem_cons_zero, List.setIfInBounds_toArray, List.set_cons_zero, List.set_cons_succ]
  refine wpAnyH_take (i := 5) (v := ?_) rfl (by kernel_rfl) (by kernel_rfl) (by kernel_rfl) (fun _ _ _ h => h) ?_ (by assumption) ?_
  rotate_left 1
  · first | (apply Or.inl; constructor; rfl; intro W hSw; obtain ⟨s0', s1', s2', s3', s4'⟩ := (hSe W).1 hSw; go_simp; try (with_reducible rfl)) | (apply Or.inr; constructor; rfl; rfl)
  try simp only [Act.put, List.getElem_toArray, List.getElem_cons_succ, List.getElem_cons_zero, List.setIfInBounds_toArray, List.set_cons_zero, List.set_cons_succ]
  refine wpAnyH_take (i := 6) (v := ?_) rfl (by kernel_rfl) (by kernel_rfl) (by kernel_rfl) (fun _ _ _ h => h) ?_ (by assumption) ?_
  rotate_left 1
  · first | (apply Or.inl; constructor; rfl; intro W hSw; obtain ⟨s0', s1', s2', s3', s4'⟩ := (hSe W).1 hSw; go_simp; try (with_reducible rfl)) | (apply Or.inr; constructor; rfl; rfl)
  try simp only [Act.put, List.getElem_toArray, List.getElem_cons_succ, List.getElem_cons_zero, List.setIfInBounds_toArray, List.set_cons_zero, List.set_cons_succ]
  refine wpAnyH_take (i := 7) (v := ?_) rfl (by kernel_rfl) (by kernel_rfl) (by kernel_rfl) (fun _ _ _ h => h) ?_ (by assumption) ?_
  rotate_left 1
  · first | (apply Or.inl; constructor; rfl; intro W hSw; obtain ⟨s0', s1', s2', s3', s4'⟩ := (hSe W).1 hSw; go_simp; try (with_reducible rfl)) | (apply Or.inr; constructor; rfl; rfl)
  try simp only [Act.put, List.getElem_toArray, List.getElem_cons_succ, List.getElem_cons_zero, List.setIfInBounds_toArray, List.set_cons_zero, List.set_cons_succ]
  refine wpAnyH_ready (rs := [8]) (by kernel_rfl) (by simp) ?_
  refine AllReadyH.cons rfl (fun K hK => ?_) AllReadyH.nil
  go_simp
  have hrow := (HRA1.out.uptoN (k := b.length) (by omega)).cellsIn (F := F1) (fun k hk hx => by
    have h1 := HOA.out k (by cases A1 with | none => cases hk | some ad => exact hk)
    have h2 := H1.out.1.flt k hx
    omega)
  rw [show (bytesV (b ++ [171])).take (b.length * 1) = bytesV b by rw [Nat.mul_one]; simp [bytesV]] at hrow
  refine (write_any n F1 N B c (.slice A1 b.length c1) b _ (HB1.out.keeps (Keeps.refl [] w2).drew (by simp)) hN.out (by omega) hrow.drew).mono ?_
  rw [HR.out]
  rintro e w3 ⟨rfl, ⟨F2, d1, d2'⟩, d3'⟩
  have d3 : Keeps F1 w2 w3 := d3'.pre1
  have d2 : LaterF F1 w2 F2 := d2'
  obtain ⟨a1, a2, a3, a4, a5⟩ := H1.out
  have k13 : Keeps (F ++ G) w1 w3 := HK12.out.trans d3 (fun g hg => by rcases a3 g hg with e | e; exact .inl (by simp [e]); exact .inr e)
  refine hK.out _ _ (hSk _ k13) (fun hHeld => ?_)
  clear hK K hrow d3' d2'
  refine wpAnyH_take (i := 9) (v := ?_) rfl (by kernel_rfl) (by kernel_rfl) (by kernel_rfl) (fun _ _ _ h => h) ?_ (by assumption) ?_
  rotate_left 1
  · first | (apply Or.inl; constructor; rfl; intro W hSw; obtain ⟨s0', s1', s2', s3', s4'⟩ := (hSe W).1 hSw; go_simp; try (with_reducible rfl)) | (apply Or.inr; constructor; rfl; rfl)
  try simp only [Act.put, List.getElem_toArray, List.getElem_cons_succ, List.getElem_cons_zero, List.setIfInBounds_toArray, List.set_cons_zero, List.set_cons_succ]
  refine wpAnyH_take (i := 10) (v := ?_) rfl (by kernel_rfl) (by kernel_rfl) (by kernel_rfl) (fun _ _ _ h => h) ?_ (by assumption) ?_
  rotate_left 1
  · first | (apply Or.inl; constructor; rfl; intro W hSw; obtain ⟨s0', s1', s2', s3', s4'⟩ := (hSe W).1 hSw; go_simp; try (with_reducible rfl)) | (apply Or.inr; constructor; rfl; rfl)
  try simp only [Act.put, List.getElem_toArray, List.getElem_cons_succ, List.getElem_cons_zero, List.setIfInBounds_toArray, List.set_cons_zero, List.set_cons_succ]
  refine wpAnyH_take (i := 11) (v := ?_) rfl (by kernel_rfl) (by kernel_rfl) (by kernel_rfl) (fun _ _ _ h => h) ?_ (by assumption) ?_
  rotate_left 1
  · first | (apply Or.inl; constructor; rfl; intro W hSw; obtain ⟨s0', s1', s2', s3', s4'⟩ := (hSe W).1 hSw; go_simp; try (with_reducible rfl)) | (apply Or.inr; constructor; rfl; rfl)
  try simp only [Act.put, List.getElem_toArray, List.getElem_cons_succ, List.getElem_cons_zero, List.setIfInBounds_toArray, List.set_cons_zero, List.set_cons_succ]
  refine wpAnyH_take (i := 12) (v := ?_) rfl (by kernel_rfl) (by kernel_rfl) (by kernel_rfl) (fun _ _ _ h => h) ?_ (by assumption) ?_
  rotate_left 1
  · first | (apply Or.inl; constructor; rfl; intro W hSw; obtain ⟨s0', s1', s2', s3', s4'⟩ := (hSe W).1 hSw; go_simp; try (with_reducible rfl)) | (apply Or.inr; constructor; rfl; rfl)
  try simp only [Act.put, List.getElem_toArray, List.getElem_cons_succ, List.getElem_cons_zero, List.setIfInBounds_toArray, List.set_cons_zero, List.set_cons_succ]
  refine wpAnyH_take (i := 13) (v := ?_) rfl (by kernel_rfl) (by kernel_rfl) (by kernel_rfl) (fun _ _ _ h => h) ?_ (by assumption) ?_
  rotate_left 1
  · first | (apply Or.inl; constructor; rfl; intro W hSw; obtain ⟨s0', s1', s2', s3', s4'⟩ := (hSe W).1 hSw; go_simp; try (with_reducible rfl)) | (apply Or.inr; constructor; rfl; rfl)
  try simp only [Act.put, List.getElem_toArray, List.getElem_cons_succ, List.getElem_cons_zero, List.setIfInBounds_toArray, List.set_cons_zero, List.set_cons_succ]
  refine wpAnyH_done (by kernel_rfl) ?_ _
  obtain ⟨p0', p1', p2', p3', p4'⟩ := HC5.out _ k13
  have hc2 := HB2.out.keeps d3 (fun k hk hx => a5 k hx hk)
  have hr3 := HRA1.out.keeps d3 (fun k hk hx => by
    have h1 := HOA.out k hk
    have h2 := a1.flt k hx
    omega)
  have hz2 := HK12.out.size
  have hz3 := d3.size
  have hbv1 : CellsIn w1 (F1 ++ G1) (.slice BA b.length bc) (bytesV b) := HRB.out.laterN (fun k hk => by
    rcases List.mem_append.1 hk with e | e
    · rcases a3 k e with e | e
      · exact .inl (by simp [e])
      · exact .inr e
    · rcases a4 k e with e | e
      · exact .inl (by simp [e])
      · exact .inr e)
  have hbv3 : CellsIn w3 (F1 ++ G1) (.slice BA b.length bc) (bytesV b) := (hbv1.keeps HKA.out (by simp)).keeps d3 (fun k hk => .inl (by simp [hk]))
  have HD := hid (⟨d1, d2⟩ : _ ∧ _)
  have HK3 := hid d3
  have HK13 := hid k13
  have HC2 := hid hc2
  have HR3 := hid hr3
  have HBV := hid hbv3
  clear d1 d2 d3 k13 hc2 hr3 hbv1 hbv3 a1 a2 a3 a4 a5 HB1 HB2 HRA1 HKA
  go_wp2_with fail
  refine (rwrite_any x G1 N B c (.slice BA b.length bc) b _ HC2.out hN.out (by omega) (HBV.out.mono (by simp +contextual))).mono ?_
  rw [HR.out]
  rintro e w4 ⟨rfl, ⟨G2, f1, f2⟩, f3⟩
  obtain ⟨a1, a2, a3, a4, a5⟩ := H1.out
  obtain ⟨d1, d2⟩ := HD.out
  have hz4 := f3.size
  obtain ⟨t1, t2, t3, t4⟩ := two_foot a1 a2 a3 a4 a5 hz2 d1 d2 (Nat.le_refl _) (Nat.le_trans hz2 hz3) f2
  have hd1 := d1.keeps f3 t4
  have k14 : Keeps (F ++ G) w1 w4 := HK13.out.trans f3 (fun g hg => by rcases a4 g hg with e | e; exact .inl (by simp [e]); exact .inr e)
  obtain ⟨z0', z1', z2', z3', z4'⟩ := HC5.out _ k14
  have hlt3 := HR3.out.lt
  have hv2 : ∀ k, (Value.slice A1 (b.length + 1) c1).ownBlock = some k → k ∉ F2 ∧ k ∉ G2 ∧ k ∉ G1 ∧ w1.heap.size ≤ k := fun k hk => by
    have h1 := HOA.out k hk
    have hg1 : k ∉ G1 := fun hx => by have := a2.flt k hx; omega
    refine ⟨fun hx => ?_, fun hx => ?_, hg1, h1⟩
    · rcases d2 k hx with e | e
      · have := a1.flt k e
        omega
      · have hlt := hlt2 k hk
        omega
    · rcases f2 k hx with e | e
      · exact hg1 e
      · have := hlt3 k hk
        omega
  have hr4 := HR3.out.keeps f3 (fun k hk => (hv2 k hk).2.2.1)
  have HE := hid (⟨hd1, f1, t1, t2, t3⟩ : _ ∧ _ ∧ _ ∧ _ ∧ _)
  have HK14 := hid k14
  have HV2 := hid hv2
  have HA := hid hr4
  have HB4 := hid (HBV.out.keeps f3 (fun k hk => .inl (by simp [hk])))
  clear a1 a2 a3 a4 a5 d1 d2 f1 f2 f3 hd1 k14 hv2 t1 t2 t3 t4 hr4 hlt2 hlt3 H1 HC2 HR3 HBV HD HK13 HK3
  go_wp2_with fail
  refine (nstands_any (.slice A1 (b.length + 1) c1) (.slice BA b.length bc) b _ (HA.out.cellsIn (by simp)) (HB4.out.mono (by simp))).mono ?_
  rintro e w5 ⟨rfl, hk5⟩
  have HK5 := hid hk5
  clear hk5
  go_wp2_with fail
  refine (nspoil_any (.slice A1 (b.length + 1) c1) _ _ _ (HA.out.keeps HK5.out (by simp)) (by omega)).mono ?_
  rintro e w6 ⟨⟨r6, rfl⟩, hk6⟩
  have HK6 := hid hk6
  clear hk6
  go_wp2_with fail
  go_ret
  obtain ⟨e1, e2, e3, e4, e5⟩ := HE.out
  exact ⟨by simp, N2, HOK.out.mono (by omega), HF.out _ _ ⟨F2, G2, (e1.keeps HK5.out (by simp)).keeps HK6.out (fun k hk hx => (HV2.out k (by simpa using hx)).1 hk), (e2.keeps HK5.out (by simp)).keeps HK6.out (fun k hk hx => (HV2.out k (by simpa using hx)).2.1 hk), e3, e4, e5, (HK14.out.trans HK5.out (by simp)).trans HK6.out (fun k hk => .inr (HV2.out k (by simpa using hk)).2.2.2)⟩⟩
end Go.Proofs.Ytkeffebcmajhmaa
