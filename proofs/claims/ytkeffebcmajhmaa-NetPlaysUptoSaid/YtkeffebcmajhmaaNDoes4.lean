/- The law's does by contract, Send. -/
import Derived.Test.YtkeffebcmajhmaaNDoes3
namespace Go.Proofs.Ytkeffebcmajhmaa
open Go.RowKit
set_option linter.unusedVariables false
set_option linter.unusedSimpArgs false
set_option maxRecDepth 100000 in
set_option maxHeartbeats 8000000 in
theorem does_2 (w : World) (F G : List Nat) (n x : Nat) (N : NS) (B c m : Int) (bv : Value) (b : List Int) (av : Value) (a : List Int) (P : DoesPre w F G n x N B m bv b av a) :
    Calls Try.prog 59 #[.pointer (some ⟨n, 0, none⟩), .pointer (some ⟨x, 0, none⟩), .agg #[.int .i64 2, .int .i64 c, .int .i64 m, bv, av]] w (DoesPost w F G n x B) := by
  obtain ⟨hs, hc5, hfin, hrb, hra⟩ := does_start (k := 2) (c := c) (T := 104) P
  have hN := hid P.ok
  have hB0 := P.b0
  have hB1 := P.b1
  have hlb := P.lb
  have hla := P.la
  have hm0 := P.m0
  have hm1 := P.m1
  obtain ⟨q0, q1, q2, q3, q4⟩ := hc5 _ (Keeps.refl _ _)
  have HS := hid hs
  have HC5 := hid hc5
  have HF := hid hfin
  have HRB := hid hrb
  have HRA := hid hra
  clear P hs hc5 hfin hrb hra
  obtain ⟨R, hR⟩ : ∃ R, sendN N c [b, a] = R := ⟨_, rfl⟩
  have hok := okN_send hN.out c [b, a]
  rw [hR] at hok
  have HOK := hid hok
  have HR := hid hR
  clear hok hR
  obtain ⟨N2, r1, r2⟩ := R
  obtain ⟨BA, bc, hbv, hbv1, hbv2⟩ := HRB.out.shape
  rw [bytesV_length] at hbv hbv1
  subst hbv
  obtain ⟨AA, ac, hav, hav1, hav2⟩ := HRA.out.shape
  rw [bytesV_length] at hav hav1
  subst hav
  obtain ⟨i1, hi1, hy0, hy1, hy2⟩ := info_parts u8_info
  go_enter Try.func59, Try.ntmps59
  go_wp2_with fail
  obtain ⟨w1, hw1⟩ : ∃ x, w.alloc (.cells #[.int .i64 2, .int .i64 c, .int .i64 m, .slice BA b.length bc, .slice AA a.length ac] 104) = x := ⟨_, rfl⟩
  rw [hw1] at HS HC5 HF HRB HRA q0 q1 q2 q3 q4 ⊢
  clear hw1
  obtain ⟨S, hSe⟩ : ∃ S : World → Prop, ∀ w', S w' ↔ C5 w.heap.size 2 c m (.slice BA b.length bc) (.slice AA a.length ac) w' := ⟨_, fun _ => Iff.rfl⟩
  have hSk : ∀ W, Keeps (F ++ G) w1 W → S W := fun W hW => (hSe _).2 (HC5.out W hW)
  refine wp_region_held_drew (S := S) (by kernel_rfl) (hSk _ ((Keeps.refl _ w1).drew)) (fun hHeld => ?_)
  refine wpAnyH_take (i := 0) (v := ?_) rfl (by kernel_rfl) (by kernel_rfl) (by kernel_rfl) (fun _ _ _ h => h) ?_ (by assumption) ?_
  rotate_left 1
  · first | (apply Or.inl; constructor; rfl; intro W hSw; obtain ⟨s0', s1', s2', s3', s4'⟩ := (hSe W).1 hSw; go_simp; try (with_reducible rfl)) | (apply Or.inr; constructor; rfl; rfl)
  try simp only [Act.put, List.getElem_toArray, List.getElem_cons_succ, List.getElem_cons_zero, List.setIfInBounds_toArray, List.set_cons_zero, List.set_cons_succ]
  refine wpAnyH_take (i := 1) (v := ?_) rfl (by kernel_rfl) (by kernel_rfl) (by kernel_rfl) (fun _ _ _ h => h) ?_ (by assumption) ?_
  rotate_left 1
  · first | (apply Or.inl; constructor; rfl; intro W hSw; obtain ⟨s0', s1', s2', s3', s4'⟩ := (hSe W).1 hSw; go_simp; try (with_reducible rfl)) | (apply Or.inr; constructor; rfl; rfl)
  try simp only [Act.put, List.getElem_toArray, List.getElem_cons_succ, List.getElem_cons_zero, List.setIfInBounds_toArray, List.set_cons_zero, List.set_cons_succ]
  refine wpAnyH_take (i := 3) (v := ?_) rfl (by kernel_rfl) (by kernel_rfl) (by kernel_rfl) (fun _ _ _ h => h) ?_ (by assumption) ?_
  rotate_left 1
  · first | (apply Or.inl; constructor; rfl; intro W hSw; obtain ⟨s0', s1', s2', s3', s4'⟩ := (hSe W).1 hSw; go_simp; try (with_reducible rfl)) | (apply Or.inr; constructor; rfl; rfl)
  try simp only [Act.put, List.getElem_toArray, List.getElem_cons_succ, List.getElem_cons_zero, List.setIfInBounds_toArray, List.set_cons_zero, List.set_cons_succ]
  refine wpAnyH_take (i := 4) (v := ?_) rfl (by kernel_rfl) (by kernel_rfl) (by kernel_rfl) (fun _ _ _ h => h) ?_ (by assumption) ?_
  rotate_left 1
  · first | (apply Or.inl; constructor; rfl; intro W hSw; obtain ⟨s0', s1', s2', s3', s4'⟩ := (hSe W).1 hSw; go_simp; try (with_reducible rfl)) | (apply Or.inr; constructor; rfl; rfl)
  try simp only [Act.put, List.getElem_toArray, List.getElem_cons_succ, List.getElem_cons_zero, List.setIfInBounds_toArray, List.set_cons_zero, List.set_cons_succ]
  refine wpAnyH_ready (rs := [2]) (by kernel_rfl) (by simp) ?_
  refine AllReadyH.cons rfl (fun K hK => ?_) AllReadyH.nil
  go_simp
  refine (nroomy_any (.slice BA b.length bc) b _ (HRB.out.mono (by simp)).drew (by omega)).mono ?_
  rintro e w2 ⟨A1, c1, rfl, ra1, oa1, ka1'⟩
  have ka1 : Keeps [] w1 w2 := ka1'.pre1
  replace oa1 : ∀ k, (Value.slice A1 (b.length + 1) c1).ownBlock = some k → w1.heap.size ≤ k := oa1
  refine hK.out _ _ (hSk _ (ka1.mono (by simp))) (fun hHeld => ?_)
  clear hK K ka1'
  refine wpAnyH_ready (rs := [5]) (by kernel_rfl) (by simp) ?_
  refine AllReadyH.cons rfl (fun K hK => ?_) AllReadyH.nil
  go_simp
  refine (nroomy_any (.slice AA a.length ac) a _ ((HRA.out.mono (by simp)).keeps ka1 (by simp)) (by omega)).mono ?_
  rintro e w3 ⟨A2, c2, rfl, ra2, oa2, ka2⟩
  have ka12 := ka1.trans ka2 (by simp)
  refine hK.out _ _ (hSk _ (ka12.mono (by simp))) (fun hHeld => ?_)
  clear hK K
  refine wpAnyH_take (i := 6) (v := ?_) rfl (by kernel_rfl) (by kernel_rfl) (by kernel_rfl) (fun _ _ _ h => h) ?_ (by assumption) ?_
  rotate_left 1
  · first | (apply Or.inl; constructor; rfl; intro W hSw; obtain ⟨s0', s1', s2', s3', s4'⟩ := (hSe W).1 hSw; go_simp; try (with_reducible rfl)) | (apply Or.inr; constructor; rfl; rfl)
  try simp only [Act.put, List.getElem_toArray, List.getElem_cons_succ, List.getElem_cons_zero, List.setIfInBounds_toArray, List.set_cons_zero, List.set_cons_succ]
  refine wpAnyH_take (i := 7) (v := ?_) rfl (by kernel_rfl) (by kernel_rfl) (by kernel_rfl) (fun _ _ _ h => h) ?_ (by assumption) ?_
  rotate_left 1
  · first | (apply Or.inl; constructor; rfl; intro W hSw; obtain ⟨s0', s1', s2', s3', s4'⟩ := (hSe W).1 hSw; go_simp; try (with_reducible rfl)) | (apply Or.inr; constructor; rfl; rfl)
  try simp only [Act.put, List.getElem_toArray, List.getElem_cons_succ, List.getElem_cons_zero, List.setIfInBounds_toArray, List.set_cons_zero, List.set_cons_succ]
  refine wpAnyH_done (by kernel_rfl) ?_ _
  obtain ⟨F1, G1, a1, a2, a3, a4, a5, a6⟩ := HS.out
  have b1 := a1.keeps ka12 (by simp)
  have b2 := a2.keeps ka12 (by simp)
  have k13 : Keeps (F ++ G) w1 w3 := a6.trans ka12 (by simp)
  obtain ⟨q0', q1', q2', q3', q4'⟩ := HC5.out _ k13
  obtain ⟨_, _, hve, hc1a, hc1b, -, hspot1⟩ := ra1.form
  injection hve with hva _ hvc
  subst hva hvc
  have hca1 : cutA A1 0 c1 1 = A1 := cutA_zero A1 c1 1 (fun ad h => (hspot1 ad h).1)
  have hsl1 := fun wx => run_cut_hi (P := Try.prog) wx 66 5 i1 1 Try.underlying66 hi1 hy1 A1 (b.length + 1) c1 b.length (b.length : Int) rfl .i64 (by omega)
  simp only [hca1] at hsl1
  have hc1m : c1 ≤ 9223372036854775807 := by unfold maxLen at hc1b; omega
  have hc1l : b.length ≤ c1 := by omega
  obtain ⟨_, _, hve, hc2a, hc2b, -, hspot2⟩ := ra2.form
  injection hve with hva _ hvc
  subst hva hvc
  have hca2 : cutA A2 0 c2 1 = A2 := cutA_zero A2 c2 1 (fun ad h => (hspot2 ad h).1)
  have hsl2 := fun wx => run_cut_hi (P := Try.prog) wx 66 5 i1 1 Try.underlying66 hi1 hy1 A2 (a.length + 1) c2 a.length (a.length : Int) rfl .i64 (by omega)
  simp only [hca2] at hsl2
  have hc2m : c2 ≤ 9223372036854775807 := by unfold maxLen at hc2b; omega
  have hc2l : a.length ≤ c2 := by omega
  have ra13 := ra1.keeps ka2 (by simp)
  have oa2' : ∀ k, (Value.slice A2 (a.length + 1) c2).ownBlock = some k → w1.heap.size ≤ k ∧ ∀ j, (Value.slice A1 (b.length + 1) c1).ownBlock = some j → k ≠ j := fun k hk => by
    have h1 := oa2 k hk
    have h2 := ka1.size
    refine ⟨by omega, fun j hj => ?_⟩
    have h3 := ra1.lt j hj
    omega
  have hsub : ∀ k ∈ F1 ++ G1, k ∈ F ++ G ∨ w1.heap.size ≤ k := fun k hk => by
    rcases List.mem_append.1 hk with e | e
    · rcases a3 k e with e | e
      · exact .inl (by simp [e])
      · exact .inr e
    · rcases a4 k e with e | e
      · exact .inl (by simp [e])
      · exact .inr e
  have hbv3 := (HRB.out.laterN hsub).keeps ka12 (by simp)
  have hav3 := (HRA.out.laterN hsub).keeps ka12 (by simp)
  have H1 := hid (⟨a1, a2, a3, a4, a5⟩ : _ ∧ _ ∧ _ ∧ _ ∧ _)
  have HB1 := hid b1
  have HB2 := hid b2
  have HK13 := hid k13
  have HR1 := hid ra13
  have HR2 := hid ra2
  have HO1 := hid oa1
  have HO2 := hid oa2'
  have HBV := hid hbv3
  have HAV := hid hav3
  have HZ13 := hid ka12.size
  have HLT1 := hid ra13.lt
  have HLT2 := hid ra2.lt
  clear a1 a2 a3 a4 a5 a6 b1 b2 k13 ka1 ka2 ka12 ra1 ra2 ra13 oa1 oa2 oa2' hbv3 hav3 hsub hspot1 hspot2 hca1 hca2 hc1a hc1b hc2a hc2b
  go_wp2_with fail
  obtain ⟨S, hSe⟩ : ∃ S : World → Prop, ∀ w', S w' ↔ C5 w.heap.size 2 c m (.slice BA b.length bc) (.slice AA a.length ac) w' := ⟨_, fun _ => Iff.rfl⟩
  have hSk : ∀ W, Keeps (F ++ G) w1 W → S W := fun W hW => (hSe _).2 (HC5.out W hW)
  refine wp_region_held_drew (S := S) (by kernel_rfl) (hSk _ (HK13.out.drew)) (fun hHeld => ?_)
  refine wpAnyH_take (i := 0) (v := ?_) rfl (by kernel_rfl) (by kernel_rfl) (by kernel_rfl) (fun _ _ _ h => h) ?_ (by assumption) ?_
  rotate_left 1
  · first | (apply Or.inl; constructor; rfl; intro W hSw; obtain ⟨s0', s1', s2', s3', s4'⟩ := (hSe W).1 hSw; go_simp; try (with_reducible rfl)) | (apply Or.inr; constructor; rfl; rfl)
  try simp only [Act.put, List.getElem_toArray, List.getElem_cons_succ, List.getElem_cons_zero, List.setIfInBounds_toArray, List.set_cons_zero, List.set_cons_succ]
  refine wpAnyH_take (i := 1) (v := ?_) rfl (by kernel_rfl) (by kernel_rfl) (by kernel_rfl) (fun _ _ _ h => h) ?_ (by assumption) ?_
  rotate_left 1
  · first | (apply Or.inl; constructor; rfl; intro W hSw; obtain ⟨s0', s1', s2', s3', s4'⟩ := (hSe W).1 hSw; go_simp; try (with_reducible rfl)) | (apply Or.inr; constructor; rfl; rfl)
  try simp only [Act.put, List.getElem_toArray, List.getElem_cons_succ, List.getElem_cons_zero, List.setIfInBounds_toArray, List.set_cons_zero, List.set_cons_succ]
  refine wpAnyH_take (i := 2) (v := ?_) rfl (by kernel_rfl) (by kernel_rfl) (by kernel_rfl) (fun _ _ _ h => h) ?_ (by assumption) ?_
  rotate_left 1
  · first | (apply Or.inl; constructor; rfl; intro W hSw; obtain ⟨s0', s1', s2', s3', s4'⟩ := (hSe W).1 hSw; go_simp; try (with_reducible rfl)) | (apply Or.inr; constructor; rfl; rfl)
  try simp only [Act.put, List.getElem_toArray, List.getElem_cons_succ, List.getElem_cons_zero, List.setIfInBounds_toArray, List.set_cons_zero, List.set_cons_succ]
  refine wpAnyH_take (i := 3) (v := ?_) rfl (by kernel_rfl) (by kernel_rfl) (by kernel_rfl) (fun _ _ _ h => h) ?_ (by assumption) ?_
  rotate_left 1
  · first | (apply Or.inl; constructor; rfl; intro W hSw; obtain ⟨s0', s1', s2', s3', s4'⟩ := (hSe W).1 hSw; go_simp; try (with_reducible rfl)) | (apply Or.inr; constructor; rfl; rfl)
  try simp only [Act.put, List.getElem_toArray, List.getElem_cons_succ, List.getElem_cons_zero, List.setIfInBounds_toArray, List.set_cons_zero, List.set_cons_succ]
  refine wpAnyH_take (i := 4) (v := ?_) rfl (by kernel_rfl) (by kernel_rfl) (by kernel_rfl) (fun _ _ _ h => h) ?_ (by assumption) ?_
  rotate_left 1
  · first | (apply Or.inl; constructor; rfl; intro W hSw; obtain ⟨s0', s1', s2', s3', s4'⟩ := (hSe W).1 hSw; go_simp; try (with_reducible rfl)) | (apply Or.inr; constructor; rfl; rfl)
  try simp only [Act.put, List.getElem_toArray, List.getElem_cons_succ, List.getElem_cons_zero, List.setIfInBounds_toArray, List.set_cons_zero, List.set_cons_succ]
  refine wpAnyH_take (i := 5) (v := ?_) rfl (by kernel_rfl) (by kernel_rfl) (by kernel_rfl) (fun _ _ _ h => h) ?_ (by assumption) ?_
  rotate_left 1
  · first | (apply Or.inl; constructor; rfl; intro W hSw; obtain ⟨s0', s1', s2', s3', s4'⟩ := (hSe W).1 hSw; go_simp; try (with_reducible rfl)) | (apply Or.inr; constructor; rfl; rfl)
  try simp only [Act.put, List.getElem_toArray, List.getElem_cons_succ, List.getElem_cons_zero, List.setIfInBounds_toArray, List.set_cons_zero, List.set_cons_succ]
  refine wpAnyH_take (i := 6) (v := ?_) rfl (by kernel_rfl) (by kernel_rfl) (by kernel_rfl) (fun _ _ _ h => h) ?_ (by assumption) ?_
  rotate_left 1
  · first | (apply Or.inl; constructor; rfl; intro W hSw; obtain ⟨s0', s1', s2', s3', s4'⟩ := (hSe W).1 hSw; go_simp; try (with_reducible rfl)) | (apply Or.inr; constructor; rfl; rfl)
  try simp only [Act.put, List.getElem_toArray, List.getElem_cons_succ, List.getElem_cons_zero, List.setIfInBounds_toArray, List.set_cons_zero, List.set_cons_succ]
  refine wpAnyH_take (i := 7) (v := ?_) rfl (by kernel_rfl) (by kernel_rfl) (by kernel_rfl) (fun _ _ _ h => h) ?_ (by assumption) ?_
  rotate_left 1
  · first | (apply Or.inl; constructor; rfl; intro W hSw; obtain ⟨s0', s1', s2', s3', s4'⟩ := (hSe W).1 hSw; go_simp; try (with_reducible rfl)) | (apply Or.inr; constructor; rfl; rfl)
  try simp only [Act.put, List.getElem_toArray, List.getElem_cons_succ, List.getElem_cons_zero, List.setIfInBounds_toArray, List.set_cons_zero, List.set_cons_succ]
  refine wpAnyH_take (i := 8) (v := ?_) rfl (by kernel_rfl) (by kernel_rfl) (by kernel_rfl) (fun _ _ _ h => h) ?_ (by assumption) ?_
  rotate_left 1
  · first | (apply Or.inl; constructor; rfl; intro W hSw; obtain ⟨s0', s1', s2', s3', s4'⟩ := (hSe W).1 hSw; go_simp; try (with_reducible rfl)) | (apply Or.inr; constructor; rfl; rfl)
  try simp only [Act.put, List.getElem_toArray, List.getElem_cons_succ, List.getElem_cons_zero, List.setIfInBounds_toArray, List.set_cons_zero, List.set_cons_succ]
  refine wpAnyH_take (i := 9) (v := ?_) rfl (by kernel_rfl) (by kernel_rfl) (by kernel_rfl) (fun _ _ _ h => h) ?_ (by assumption) ?_
  rotate_left 1
  · first | (apply Or.inl; constructor; rfl; intro W hSw; obtain ⟨s0', s1', s2', s3', s4'⟩ := (hSe W).1 hSw; go_simp; try (with_reducible rfl)) | (apply Or.inr; constructor; rfl; rfl)
  try simp only [Act.put, List.getElem_toArray, List.getElem_cons_succ, List.getElem_cons_zero, List.setIfInBounds_toArray, List.set_cons_zero, List.set_cons_succ]
  refine wpAnyH_take (i := 10) (v := ?_) rfl (by kernel_rfl) (by kernel_rfl) (by kernel_rfl) (fun _ _ _ h => h) ?_ (by assumption) ?_
  rotate_left 1
  · first | (apply Or.inl; constructor; rfl; intro W hSw; obtain ⟨s0', s1', s2', s3', s4'⟩ := (hSe W).1 hSw; go_simp; try (with_reducible rfl)) | (apply Or.inr; constructor; rfl; rfl)
  try simp only [Act.put, List.getElem_toArray, List.getElem_cons_succ, List.getElem_cons_zero, List.setIfInBounds_toArray, List.set_cons_zero, List.set_cons_succ]
  refine wpAnyH_take (i := 11) (v := ?_) rfl (by kernel_rfl) (by kernel_rfl) (by kernel_rfl) (fun _ _ _ h => h) ?_ (by assumption) ?_
  rotate_left 1
  · first | (apply Or.inl; constructor; rfl; intro W hSw; obtain ⟨s0', s1', s2', s3', s4'⟩ := (hSe W).1 hSw; go_simp; try (with_reducible rfl)) | (apply Or.inr; constructor; rfl; rfl)
  try simp only [Act.put, List.getElem_toArray, List.getElem_cons_succ, List.getElem_cons_zero, List.setIfInBounds_toArray, List.set_cons_zero, List.set_cons_succ]
  refine wpAnyH_take (i := 12) (v := ?_) rfl (by kernel_rfl) (by kernel_rfl) (by kernel_rfl) (fun _ _ _ h => h) ?_ (by assumption) ?_
  rotate_left 1
  · first | (apply Or.inl; constructor; rfl; intro W hSw; obtain ⟨s0', s1', s2', s3', s4'⟩ := (hSe W).1 hSw; go_simp; try (with_reducible rfl)) | (apply Or.inr; constructor; rfl; rfl)
  try simp only [Act.put, List.getElem_toArray, List.getElem_cons_succ, List.getElem_cons_zero, List.setIfInBounds_toArray, List.set_cons_zero, List.set_cons_succ]
  refine wpAnyH_ready (rs := [13]) (by kernel_rfl) (by simp) ?_
  refine AllReadyH.cons rfl (fun K hK => ?_) AllReadyH.nil
  go_simp
  refine hK.out _ _ (hSk _ (HK13.out.drew.alloc _)) (fun hHeld => ?_)
  clear hK K
  refine wpAnyH_ready (rs := [14]) (by kernel_rfl) (by simp) ?_
  refine AllReadyH.cons rfl (fun K hK => ?_) AllReadyH.nil
  go_simp
  have hlf1 : ∀ k, (Value.slice A1 (b.length + 1) c1).ownBlock = some k → k ∉ F1 ∧ k ∉ G1 := fun k hk => ⟨fun hx => by have h1 := HO1.out k hk; have h2 := H1.out.1.flt k hx; omega, fun hx => by have h1 := HO1.out k hk; have h2 := H1.out.2.1.flt k hx; omega⟩
  have hlf2 : ∀ k, (Value.slice A2 (a.length + 1) c2).ownBlock = some k → k ∉ F1 ∧ k ∉ G1 := fun k hk => ⟨fun hx => by have h1 := (HO2.out k hk).1; have h2 := H1.out.1.flt k hx; omega, fun hx => by have h1 := (HO2.out k hk).1; have h2 := H1.out.2.1.flt k hx; omega⟩
  have hrow1 := (HR1.out.uptoN (k := b.length) (by omega)).cellsIn (F := F1) (fun k hk => (hlf1 k (by cases A1 with | none => cases hk | some ad => exact hk)).1)
  rw [show (bytesV (b ++ [171])).take (b.length * 1) = bytesV b by rw [Nat.mul_one]; simp [bytesV]] at hrow1
  have hrow2 := (HR2.out.uptoN (k := a.length) (by omega)).cellsIn (F := F1) (fun k hk => (hlf2 k (by cases A2 with | none => cases hk | some ad => exact hk)).1)
  rw [show (bytesV (a ++ [171])).take (a.length * 1) = bytesV a by rw [Nat.mul_one]; simp [bytesV]] at hrow2
  have hrw : RowsIn (w3.drew.alloc (.cells #[.slice A1 b.length c1, .slice A2 a.length c2] 66)) F1 (.slice (some ⟨w3.heap.size, 0, none⟩) 2 2) [(.slice A1 b.length c1, b), (.slice A2 a.length c2, a)] := by
    refine ⟨?_, fun r hr => ?_⟩
    · have h := CellsIn.newM w3.drew F1 [.slice A1 b.length c1, .slice A2 a.length c2] 66 (0, 0) (fun k hk => HB1.out.flt k hk) (by simp)
      simpa using h
    · simp at hr
      rcases hr with rfl | rfl
      · exact hrow1.drew.alloc _
      · exact hrow2.drew.alloc _
  refine (send_any n F1 N B c _ _ _ ((HB1.out.keeps (Keeps.refl [] w3).drew (by simp)).keeps ((Keeps.refl [] w3.drew).alloc _) (by simp)) hN.out (by omega) hrw).mono ?_
  simp only [List.map_cons, List.map_nil]
  rw [HR.out]
  rintro e w4 ⟨rfl, ⟨F2, d1, d2'⟩, d3'⟩
  have hka : Keeps [] w3 (w3.drew.alloc (.cells #[.slice A1 b.length c1, .slice A2 a.length c2] 66)) := (Keeps.refl [] w3).drew.alloc _
  have d3 : Keeps F1 w3 w4 := (hka.mono (by simp)).trans d3' (fun g hg => .inl hg)
  have d2 : LaterF F1 w3 F2 := fun k hk => by
    rcases d2' k hk with e | e
    · exact .inl e
    · have := hka.size
      exact .inr (by omega)
  obtain ⟨a1, a2, a3, a4, a5⟩ := H1.out
  have k14 : Keeps (F ++ G) w1 w4 := HK13.out.trans d3 (fun g hg => by rcases a3 g hg with e | e; exact .inl (by simp [e]); exact .inr e)
  refine hK.out _ _ (hSk _ k14) (fun hHeld => ?_)
  clear hK K hrow1 hrow2 hrw d3' d2'
  refine wpAnyH_take (i := 15) (v := ?_) rfl (by kernel_rfl) (by kernel_rfl) (by kernel_rfl) (fun _ _ _ h => h) ?_ (by assumption) ?_
  rotate_left 1
  · first | (apply Or.inl; constructor; rfl; intro W hSw; obtain ⟨s0', s1', s2', s3', s4'⟩ := (hSe W).1 hSw; go_simp; try (with_reducible rfl)) | (apply Or.inr; constructor; rfl; rfl)
  try simp only [Act.put, List.getElem_toArray, List.getElem_cons_succ, List.getElem_cons_zero, List.setIfInBounds_toArray, List.set_cons_zero, List.set_cons_succ]
  refine wpAnyH_take (i := 16) (v := ?_) rfl (by kernel_rfl) (by kernel_rfl) (by kernel_rfl) (fun _ _ _ h => h) ?_ (by assumption) ?_
  rotate_left 1
  · first | (apply Or.inl; constructor; rfl; intro W hSw; obtain ⟨s0', s1', s2', s3', s4'⟩ := (hSe W).1 hSw; go_simp; try (with_reducible rfl)) | (apply Or.inr; constructor; rfl; rfl)
  try simp only [Act.put, List.getElem_toArray, List.getElem_cons_succ, List.getElem_cons_zero, List.setIfInBounds_toArray, List.set_cons_zero, List.set_cons_succ]
  refine wpAnyH_take (i := 17) (v := ?_) rfl (by kernel_rfl) (by kernel_rfl) (by kernel_rfl) (fun _ _ _ h => h) ?_ (by assumption) ?_
  rotate_left 1
  · first | (apply Or.inl; constructor; rfl; intro W hSw; obtain ⟨s0', s1', s2', s3', s4'⟩ := (hSe W).1 hSw; go_simp; try (with_reducible rfl)) | (apply Or.inr; constructor; rfl; rfl)
  try simp only [Act.put, List.getElem_toArray, List.getElem_cons_succ, List.getElem_cons_zero, List.setIfInBounds_toArray, List.set_cons_zero, List.set_cons_succ]
  refine wpAnyH_take (i := 18) (v := ?_) rfl (by kernel_rfl) (by kernel_rfl) (by kernel_rfl) (fun _ _ _ h => h) ?_ (by assumption) ?_
  rotate_left 1
  · first | (apply Or.inl; constructor; rfl; intro W hSw; obtain ⟨s0', s1', s2', s3', s4'⟩ := (hSe W).1 hSw; go_simp; try (with_reducible rfl)) | (apply Or.inr; constructor; rfl; rfl)
  try simp only [Act.put, List.getElem_toArray, List.getElem_cons_succ, List.getElem_cons_zero, List.setIfInBounds_toArray, List.set_cons_zero, List.set_cons_succ]
  refine wpAnyH_take (i := 19) (v := ?_) rfl (by kernel_rfl) (by kernel_rfl) (by kernel_rfl) (fun _ _ _ h => h) ?_ (by assumption) ?_
  rotate_left 1
  · first | (apply Or.inl; constructor; rfl; intro W hSw; obtain ⟨s0', s1', s2', s3', s4'⟩ := (hSe W).1 hSw; go_simp; try (with_reducible rfl)) | (apply Or.inr; constructor; rfl; rfl)
  try simp only [Act.put, List.getElem_toArray, List.getElem_cons_succ, List.getElem_cons_zero, List.setIfInBounds_toArray, List.set_cons_zero, List.set_cons_succ]
  refine wpAnyH_done (by kernel_rfl) ?_ _
  obtain ⟨p0', p1', p2', p3', p4'⟩ := HC5.out _ k14
  have hc2 := HB2.out.keeps d3 (fun k hk hx => a5 k hx hk)
  have hz3 := d3.size
  have HD := hid (⟨d1, d2⟩ : _ ∧ _)
  have HK14 := hid k14
  have HC2 := hid hc2
  have HR14 := hid (HR1.out.keeps d3 (fun k hk => (hlf1 k hk).1))
  have HR24 := hid (HR2.out.keeps d3 (fun k hk => (hlf2 k hk).1))
  have HBV4 := hid (HBV.out.keeps d3 (fun k hk => .inl (by simp [hk])))
  have HAV4 := hid (HAV.out.keeps d3 (fun k hk => .inl (by simp [hk])))
  have HL1 := hid hlf1
  have HL2 := hid hlf2
  have hm3 := fun o => alloc_cell p3' o
  have hm4 := fun o => alloc_cell p4' o
  clear d1 d2 d3 k14 hc2 hlf1 hlf2 a1 a2 a3 a4 a5 HB1 HB2 HR1 HR2 HBV HAV hka
  go_wp2_with fail
  have hrw : RowsIn (w4.alloc (.cells #[.slice BA b.length bc, .slice AA a.length ac] 66)) G1 (.slice (some ⟨w4.heap.size, 0, none⟩) 2 2) [(.slice BA b.length bc, b), (.slice AA a.length ac, a)] := by
    refine ⟨?_, fun r hr => ?_⟩
    · have h := CellsIn.newM w4 G1 [.slice BA b.length bc, .slice AA a.length ac] 66 (0, 0) (fun k hk => HC2.out.flt k hk) (by simp)
      simpa using h
    · simp at hr
      rcases hr with rfl | rfl
      · exact (HBV4.out.mono (by simp +contextual)).alloc _
      · exact (HAV4.out.mono (by simp +contextual)).alloc _
  refine (rsend_any x G1 N B c _ _ _ (HC2.out.keeps ((Keeps.refl [] w4).alloc _) (by simp)) hN.out (by omega) hrw).mono ?_
  simp only [List.map_cons, List.map_nil]
  rw [HR.out]
  rintro e w5 ⟨rfl, ⟨G2, f1, f2'⟩, f3'⟩
  have hka : Keeps [] w4 (w4.alloc (.cells #[.slice BA b.length bc, .slice AA a.length ac] 66)) := (Keeps.refl [] w4).alloc _
  have f3 : Keeps G1 w4 w5 := (hka.mono (by simp)).trans f3' (fun g hg => .inl hg)
  have f2 : LaterF G1 w4 G2 := fun k hk => by
    rcases f2' k hk with e | e
    · exact .inl e
    · have := hka.size
      exact .inr (by omega)
  obtain ⟨a1, a2, a3, a4, a5⟩ := H1.out
  obtain ⟨d1, d2⟩ := HD.out
  have hz13 := HZ13.out
  obtain ⟨t1, t2, t3, t4⟩ := two_foot a1 a2 a3 a4 a5 hz13 d1 d2 (Nat.le_refl _) (Nat.le_trans hz13 hz3) f2
  have hd1 := d1.keeps f3 t4
  have k15 : Keeps (F ++ G) w1 w5 := HK14.out.trans f3 (fun g hg => by rcases a4 g hg with e | e; exact .inl (by simp [e]); exact .inr e)
  obtain ⟨z0', z1', z2', z3', z4'⟩ := HC5.out _ k15
  have hv2 : ∀ k, (Value.slice A1 (b.length + 1) c1).ownBlock = some k → k ∉ F2 ∧ k ∉ G2 ∧ w1.heap.size ≤ k := fun k hk => by
    have h1 := HLT1.out k hk
    have h2 := HO1.out k hk
    refine ⟨fun hx => ?_, fun hx => ?_, h2⟩
    · rcases d2 k hx with e | e
      · exact (HL1.out k hk).1 e
      · omega
    · rcases f2 k hx with e | e
      · exact (HL1.out k hk).2 e
      · omega
  have hne : ∀ k, (Value.slice A2 (a.length + 1) c2).ownBlock = some k → k ∉ (Value.slice A1 (b.length + 1) c1).ownBlock.toList := fun k hk hx => (HO2.out k hk).2 k (by simpa using hx) rfl
  have HE := hid (⟨hd1, f1, t1, t2, t3⟩ : _ ∧ _ ∧ _ ∧ _ ∧ _)
  have HK15 := hid k15
  have HV2 := hid hv2
  have HA := hid (HR14.out.keeps f3 (fun k hk => (HL1.out k hk).2))
  have HA2 := hid (HR24.out.keeps f3 (fun k hk => (HL2.out k hk).2))
  have HB5 := hid (HBV4.out.keeps f3 (fun k hk => .inl (by simp [hk])))
  have HB6 := hid (HAV4.out.keeps f3 (fun k hk => .inl (by simp [hk])))
  clear a1 a2 a3 a4 a5 d1 d2 f1 f2 f3 f2' f3' hd1 k15 hv2 t1 t2 t3 t4 hrw hka hm3 hm4 HD HK14 HC2 HR14 HR24 HBV4 HAV4 HL1 HL2 H1 HO1 HO2 hne
  go_wp2_with fail
  refine (nstands_any (.slice A1 (b.length + 1) c1) (.slice BA b.length bc) b _ (HA.out.cellsIn (by simp)) (HB5.out.mono (by simp))).mono ?_
  rintro e w6 ⟨rfl, hk6⟩
  have HK6 := hid hk6
  have HK16 := hid (HK15.out.trans hk6 (by simp))
  clear hk6
  obtain ⟨y0', y1', y2', y3', y4'⟩ := HC5.out _ HK16.out
  go_wp2_with fail
  refine (nstands_any (.slice A2 (a.length + 1) c2) (.slice AA a.length ac) a _ ((HA2.out.keeps HK6.out (by simp)).cellsIn (by simp)) ((HB6.out.keeps HK6.out (by simp)).mono (by simp))).mono ?_
  rintro e w7 ⟨rfl, hk7⟩
  have HK7 := hid (HK6.out.trans hk7 (by simp))
  clear hk7
  go_wp2_with fail
  refine (nspoil_any (.slice A1 (b.length + 1) c1) _ _ _ (HA.out.keeps HK7.out (by simp)) (by omega)).mono ?_
  rintro e w8 ⟨⟨r8, rfl⟩, hk8⟩
  have HK8 := hid hk8
  clear hk8
  go_wp2_with fail
  go_ret
  obtain ⟨e1, e2, e3, e4, e5⟩ := HE.out
  exact ⟨by simp, N2, HOK.out.mono (by omega), HF.out _ _ ⟨F2, G2, (e1.keeps HK7.out (by simp)).keeps HK8.out (fun k hk hx => (HV2.out k (by simpa using hx)).1 hk), (e2.keeps HK7.out (by simp)).keeps HK8.out (fun k hk hx => (HV2.out k (by simpa using hx)).2.1 hk), e3, e4, e5, (HK15.out.trans HK7.out (by simp)).trans HK8.out (fun k hk => .inr (HV2.out k (by simpa using hk)).2.2)⟩⟩
end Go.Proofs.Ytkeffebcmajhmaa
