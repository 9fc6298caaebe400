/- The law's does by contract, its simple kinds. -/
import Derived.Test.YtkeffebcmajhmaaNStood
namespace Go.Proofs.Ytkeffebcmajhmaa
open Go.RowKit
set_option linter.unusedVariables false
set_option linter.unusedSimpArgs false
/-- what an act leaves: both nets the same. -/
def DoesPost (w : World) (F G : List Nat) (n x : Nat) (B : Int) (e : Ending) (w' : World) : Prop := e = .returned (.bool true) ∧ ∃ N', OkN N' (B + 2097152) ∧ NB w F G n x N' N' w'
structure DoesPre (w : World) (F G : List Nat) (n x : Nat) (N : NS) (B : Int) (m : Int) (bv : Value) (b : List Int) (av : Value) (a : List Int) : Prop where
  h1 : NRep pc w n F N
  h2 : NRep rc w x G N
  h3 : ∀ k ∈ F, k ∉ G
  ok : OkN N B
  b0 : 0 ≤ B
  b1 : B ≤ 549755813888
  rb : CellsIn w (F ++ G) bv (bytesV b)
  ra : CellsIn w (F ++ G) av (bytesV a)
  lb : b.length ≤ 1048576
  la : a.length ≤ 1048576
  m0 : -9223372036854775808 ≤ m
  m1 : m ≤ 9223372036854775807
/-- the act lies in a block of its own. -/
def C5 (h : Nat) (k c m : Int) (bv av : Value) (w : World) : Prop := w.cell? ⟨h, 0, none⟩ = some (.int .i64 k) ∧ w.cell? ⟨h, 1, none⟩ = some (.int .i64 c) ∧ w.cell? ⟨h, 2, none⟩ = some (.int .i64 m) ∧ w.cell? ⟨h, 3, none⟩ = some bv ∧ w.cell? ⟨h, 4, none⟩ = some av
theorem does_start {w : World} {F G : List Nat} {n x : Nat} {N : NS} {B m k c : Int} {bv av : Value} {b a : List Int} {T : TypeId} (P : DoesPre w F G n x N B m bv b av a) :
    NB (w.alloc (.cells #[.int .i64 k, .int .i64 c, .int .i64 m, bv, av] T)) F G n x N N (w.alloc (.cells #[.int .i64 k, .int .i64 c, .int .i64 m, bv, av] T)) ∧
    (∀ W, Keeps (F ++ G) (w.alloc (.cells #[.int .i64 k, .int .i64 c, .int .i64 m, bv, av] T)) W → C5 w.heap.size k c m bv av W) ∧
    (∀ N' W, NB (w.alloc (.cells #[.int .i64 k, .int .i64 c, .int .i64 m, bv, av] T)) F G n x N' N' W → NB w F G n x N' N' W) ∧
    CellsIn (w.alloc (.cells #[.int .i64 k, .int .i64 c, .int .i64 m, bv, av] T)) (F ++ G) bv (bytesV b) ∧ CellsIn (w.alloc (.cells #[.int .i64 k, .int .i64 c, .int .i64 m, bv, av] T)) (F ++ G) av (bytesV a) := by
  have hk1 := (Keeps.refl [] w).alloc (.cells #[.int .i64 k, .int .i64 c, .int .i64 m, bv, av] T)
  refine ⟨NB.start (P.h1.keeps hk1 (by simp)) (P.h2.keeps hk1 (by simp)) P.h3, fun W hW => ?_, fun N' W h => NB.trans (hk1.mono (by simp)) (fun k hk => .inl hk) (fun k hk => .inl hk) h, P.rb.alloc _, P.ra.alloc _⟩
  have hb := (Blk.new w T #[.int .i64 k, .int .i64 c, .int .i64 m, bv, av]).keeps hW (fun hx => by
    rcases List.mem_append.1 hx with e | e
    · have := P.h1.flt _ e
      omega
    · have := P.h2.flt _ e
      omega)
  exact ⟨by simpa using hb.cell 0, by simpa using hb.cell 1, by simpa using hb.cell 2, by simpa using hb.cell 3, by simpa using hb.cell 4⟩
set_option maxRecDepth 100000 in
set_option maxHeartbeats 8000000 in
theorem does_3 (w : World) (F G : List Nat) (n x : Nat) (N : NS) (B c m : Int) (bv : Value) (b : List Int) (av : Value) (a : List Int) (P : DoesPre w F G n x N B m bv b av a) :
    Calls Try.prog 59 #[.pointer (some ⟨n, 0, none⟩), .pointer (some ⟨x, 0, none⟩), .agg #[.int .i64 3, .int .i64 c, .int .i64 m, bv, av]] w (DoesPost w F G n x B) := by
  obtain ⟨hs, hc5, hfin, hrb, hra⟩ := does_start (k := 3) (c := c) (T := 104) P
  have hN := hid P.ok
  have hB0 := P.b0
  have hB1 := P.b1
  have hlb := P.lb
  have hla := P.la
  have hm0 := P.m0
  have hm1 := P.m1
  obtain ⟨q0, q1, q2, q3, q4⟩ := hc5 _ (Keeps.refl _ _)
  have HS := hid hs
  have HC5 := hid hc5
  have HF := hid hfin
  have HRB := hid hrb
  have HRA := hid hra
  clear P hs hc5 hfin hrb hra
  obtain ⟨R, hR⟩ : ∃ R, halfN N c = R := ⟨_, rfl⟩
  have hok := okN_half hN.out c
  rw [hR] at hok
  have HOK := hid hok
  have HR := hid hR
  clear hok hR
  obtain ⟨N2, r⟩ := R
  go_enter Try.func59, Try.ntmps59
  go_wp2_with fail
  obtain ⟨w1, hw1⟩ : ∃ x, w.alloc (.cells #[.int .i64 3, .int .i64 c, .int .i64 m, bv, av] 104) = x := ⟨_, rfl⟩
  rw [hw1] at HS HC5 HF HRB HRA q0 q1 q2 q3 q4 ⊢
  clear hw1
  obtain ⟨S, hSe⟩ : ∃ S : World → Prop, ∀ w', S w' ↔ C5 w.heap.size 3 c m bv av w' := ⟨_, fun _ => Iff.rfl⟩
  have hSk : ∀ W, Keeps (F ++ G) w1 W → S W := fun W hW => (hSe _).2 (HC5.out W hW)
  refine wp_region_held_drew (S := S) (by kernel_rfl) (hSk _ ((Keeps.refl _ w1).drew)) (fun hHeld => ?_)
  refine wpAnyH_take (i := 0) (v := ?_) rfl (by kernel_rfl) (by kernel_rfl) (by kernel_rfl) (fun _ _ _ h => h) ?_ (by assumption) ?_
  rotate_left 1
  · first | (apply Or.inl; constructor; rfl; intro W hSw; obtain ⟨s0', s1', s2', s3', s4'⟩ := (hSe W).1 hSw; go_simp; try (with_reducible rfl)) | (apply Or.inr; constructor; rfl; rfl)
  try simp only [Act.put, List.getElem_toArray, List.getElem_cons_succ, List.getElem_cons_zero, List.setIfInBounds_toArray, List.set_cons_zero, List.set_cons_succ]
  refine wpAnyH_take (i := 1) (v := ?_) rfl (by kernel_rfl) (by kernel_rfl) (by kernel_rfl) (fun _ _ _ h => h) ?_ (by assumption) ?_
  rotate_left 1
  · first | (apply Or.inl; constructor; rfl; intro W hSw; obtain ⟨s0', s1', s2', s3', s4'⟩ := (hSe W).1 hSw; go_simp; try (with_reducible rfl)) | (apply Or.inr; constructor; rfl; rfl)
  try simp only [Act.put, List.getElem_toArray, List.getElem_cons_succ, List.getElem_cons_zero, List.setIfInBounds_toArray, List.set_cons_zero, List.set_cons_succ]
  refine wpAnyH_take (i := 2) (v := ?_) rfl (by kernel_rfl) (by kernel_rfl) (by kernel_rfl) (fun _ _ _ h => h) ?_ (by assumption) ?_
  rotate_left 1
  · first | (apply Or.inl; constructor; rfl; intro W hSw; obtain ⟨s0', s1', s2', s3', s4'⟩ := (hSe W).1 hSw; go_simp; try (with_reducible rfl)) | (apply Or.inr; constructor; rfl; rfl)
  try simp only [Act.put, List.getElem_toArray, List.getElem_cons_succ, List.getElem_cons_zero, List.setIfInBounds_toArray, List.set_cons_zero, List.set_cons_succ]
  refine wpAnyH_take (i := 4) (v := ?_) rfl (by kernel_rfl) (by kernel_rfl) (by kernel_rfl) (fun _ _ _ h => h) ?_ (by assumption) ?_
  rotate_left 1
  · first | (apply Or.inl; constructor; rfl; intro W hSw; obtain ⟨s0', s1', s2', s3', s4'⟩ := (hSe W).1 hSw; go_simp; try (with_reducible rfl)) | (apply Or.inr; constructor; rfl; rfl)
  try simp only [Act.put, List.getElem_toArray, List.getElem_cons_succ, List.getElem_cons_zero, List.setIfInBounds_toArray, List.set_cons_zero, List.set_cons_succ]
  refine wpAnyH_take (i := 5) (v := ?_) rfl (by kernel_rfl) (by kernel_rfl) (by kernel_rfl) (fun _ _ _ h => h) ?_ (by assumption) ?_
  rotate_left 1
  · first | (apply Or.inl; constructor; rfl; intro W hSw; obtain ⟨s0', s1', s2', s3', s4'⟩ := (hSe W).1 hSw; go_simp; try (with_reducible rfl)) | (apply Or.inr; constructor; rfl; rfl)
  try simp only [Act.put, List.getElem_toArray, List.getElem_cons_succ, List.getElem_cons_zero, List.setIfInBounds_toArray, List.set_cons_zero, List.set_cons_succ]
  refine wpAnyH_take (i := 6) (v := ?_) rfl (by kernel_rfl) (by kernel_rfl) (by kernel_rfl) (fun _ _ _ h => h) ?_ (by assumption) ?_
  rotate_left 1
  · first | (apply Or.inl; constructor; rfl; intro W hSw; obtain ⟨s0', s1', s2', s3', s4'⟩ := (hSe W).1 hSw; go_simp; try (with_reducible rfl)) | (apply Or.inr; constructor; rfl; rfl)
  try simp only [Act.put, List.getElem_toArray, List.getElem_cons_succ, List.getElem_cons_zero, List.setIfInBounds_toArray, List.set_cons_zero, List.set_cons_succ]
  refine wpAnyH_ready (rs := [3]) (by kernel_rfl) (by simp) ?_
  refine AllReadyH.cons rfl (fun K hK => ?_) AllReadyH.nil
  go_simp
  obtain ⟨FP, g1, g2, g3⟩ := (HS.out.next (Keeps.refl _ w1).drew).prog_
  refine (half_any n FP N B c _ g1 hN.out (by omega)).mono ?_
  rw [HR.out]
  rintro e w2 ⟨rfl, hd⟩
  have HS2 := g3 _ _ hd
  refine hK.out _ _ (hSk _ HS2.keepsW) (fun hHeld => ?_)
  clear hK K g1 g2 g3 hd
  refine wpAnyH_ready (rs := [7]) (by kernel_rfl) (by simp) ?_
  refine AllReadyH.cons rfl (fun K hK => ?_) AllReadyH.nil
  go_simp
  obtain ⟨FP, g1, g2, g3⟩ := (HS2).ref_
  refine (rhalf_any x FP N B c _ g1 hN.out (by omega)).mono ?_
  rw [HR.out]
  rintro e w3 ⟨rfl, hd⟩
  have HS3 := g3 _ _ hd
  refine hK.out _ _ (hSk _ HS3.keepsW) (fun hHeld => ?_)
  clear hK K g1 g2 g3 hd
  refine wpAnyH_take (i := 8) (v := ?_) rfl (by kernel_rfl) (by kernel_rfl) (by kernel_rfl) (fun _ _ _ h => h) ?_ (by assumption) ?_
  rotate_left 1
  · first | (apply Or.inl; constructor; rfl; intro W hSw; obtain ⟨s0', s1', s2', s3', s4'⟩ := (hSe W).1 hSw; go_simp; try (with_reducible rfl)) | (apply Or.inr; constructor; rfl; rfl)
  try simp only [Act.put, List.getElem_toArray, List.getElem_cons_succ, List.getElem_cons_zero, List.setIfInBounds_toArray, List.set_cons_zero, List.set_cons_succ]
  refine wpAnyH_take (i := 9) (v := ?_) rfl (by kernel_rfl) (by kernel_rfl) (by kernel_rfl) (fun _ _ _ h => h) ?_ (by assumption) ?_
  rotate_left 1
  · first | (apply Or.inl; constructor; rfl; intro W hSw; obtain ⟨s0', s1', s2', s3', s4'⟩ := (hSe W).1 hSw; go_simp; try (with_reducible rfl)) | (apply Or.inr; constructor; rfl; rfl)
  try simp only [Act.put, List.getElem_toArray, List.getElem_cons_succ, List.getElem_cons_zero, List.setIfInBounds_toArray, List.set_cons_zero, List.set_cons_succ]
  refine wpAnyH_done (by kernel_rfl) ?_ _
  go_wp2_with fail
  go_ret
  exact ⟨by simp, N2, HOK.out.mono (by omega), HF.out _ _ HS3⟩
set_option maxRecDepth 100000 in
set_option maxHeartbeats 8000000 in
theorem does_4 (w : World) (F G : List Nat) (n x : Nat) (N : NS) (B c m : Int) (bv : Value) (b : List Int) (av : Value) (a : List Int) (P : DoesPre w F G n x N B m bv b av a) :
    Calls Try.prog 59 #[.pointer (some ⟨n, 0, none⟩), .pointer (some ⟨x, 0, none⟩), .agg #[.int .i64 4, .int .i64 c, .int .i64 m, bv, av]] w (DoesPost w F G n x B) := by
  obtain ⟨hs, hc5, hfin, hrb, hra⟩ := does_start (k := 4) (c := c) (T := 104) P
  have hN := hid P.ok
  have hB0 := P.b0
  have hB1 := P.b1
  have hlb := P.lb
  have hla := P.la
  have hm0 := P.m0
  have hm1 := P.m1
  obtain ⟨q0, q1, q2, q3, q4⟩ := hc5 _ (Keeps.refl _ _)
  have HS := hid hs
  have HC5 := hid hc5
  have HF := hid hfin
  have HRB := hid hrb
  have HRA := hid hra
  clear P hs hc5 hfin hrb hra
  obtain ⟨R, hR⟩ : ∃ R, resetN N c = R := ⟨_, rfl⟩
  have hok := okN_reset hN.out c
  rw [hR] at hok
  have HOK := hid hok
  have HR := hid hR
  clear hok hR
  obtain ⟨N2, r⟩ := R
  go_enter Try.func59, Try.ntmps59
  go_wp2_with fail
  obtain ⟨w1, hw1⟩ : ∃ x, w.alloc (.cells #[.int .i64 4, .int .i64 c, .int .i64 m, bv, av] 104) = x := ⟨_, rfl⟩
  rw [hw1] at HS HC5 HF HRB HRA q0 q1 q2 q3 q4 ⊢
  clear hw1
  obtain ⟨S, hSe⟩ : ∃ S : World → Prop, ∀ w', S w' ↔ C5 w.heap.size 4 c m bv av w' := ⟨_, fun _ => Iff.rfl⟩
  have hSk : ∀ W, Keeps (F ++ G) w1 W → S W := fun W hW => (hSe _).2 (HC5.out W hW)
  refine wp_region_held_drew (S := S) (by kernel_rfl) (hSk _ ((Keeps.refl _ w1).drew)) (fun hHeld => ?_)
  refine wpAnyH_take (i := 0) (v := ?_) rfl (by kernel_rfl) (by kernel_rfl) (by kernel_rfl) (fun _ _ _ h => h) ?_ (by assumption) ?_
  rotate_left 1
  · first | (apply Or.inl; constructor; rfl; intro W hSw; obtain ⟨s0', s1', s2', s3', s4'⟩ := (hSe W).1 hSw; go_simp; try (with_reducible rfl)) | (apply Or.inr; constructor; rfl; rfl)
  try simp only [Act.put, List.getElem_toArray, List.getElem_cons_succ, List.getElem_cons_zero, List.setIfInBounds_toArray, List.set_cons_zero, List.set_cons_succ]
  refine wpAnyH_take (i := 1) (v := ?_) rfl (by kernel_rfl) (by kernel_rfl) (by kernel_rfl) (fun _ _ _ h => h) ?_ (by assumption) ?_
  rotate_left 1
  · first | (apply Or.inl; constructor; rfl; intro W hSw; obtain ⟨s0', s1', s2', s3', s4'⟩ := (hSe W).1 hSw; go_simp; try (with_reducible rfl)) | (apply Or.inr; constructor; rfl; rfl)
  try simp only [Act.put, List.getElem_toArray, List.getElem_cons_succ, List.getElem_cons_zero, List.setIfInBounds_toArray, List.set_cons_zero, List.set_cons_succ]
  refine wpAnyH_take (i := 2) (v := ?_) rfl (by kernel_rfl) (by kernel_rfl) (by kernel_rfl) (fun _ _ _ h => h) ?_ (by assumption) ?_
  rotate_left 1
  · first | (apply Or.inl; constructor; rfl; intro W hSw; obtain ⟨s0', s1', s2', s3', s4'⟩ := (hSe W).1 hSw; go_simp; try (with_reducible rfl)) | (apply Or.inr; constructor; rfl; rfl)
  try simp only [Act.put, List.getElem_toArray, List.getElem_cons_succ, List.getElem_cons_zero, List.setIfInBounds_toArray, List.set_cons_zero, List.set_cons_succ]
  refine wpAnyH_take (i := 4) (v := ?_) rfl (by kernel_rfl) (by kernel_rfl) (by kernel_rfl) (fun _ _ _ h => h) ?_ (by assumption) ?_
  rotate_left 1
  · first | (apply Or.inl; constructor; rfl; intro W hSw; obtain ⟨s0', s1', s2', s3', s4'⟩ := (hSe W).1 hSw; go_simp; try (with_reducible rfl)) | (apply Or.inr; constructor; rfl; rfl)
  try simp only [Act.put, List.getElem_toArray, List.getElem_cons_succ, List.getElem_cons_zero, List.setIfInBounds_toArray, List.set_cons_zero, List.set_cons_succ]
  refine wpAnyH_take (i := 5) (v := ?_) rfl (by kernel_rfl) (by kernel_rfl) (by kernel_rfl) (fun _ _ _ h => h) ?_ (by assumption) ?_
  rotate_left 1
  · first | (apply Or.inl; constructor; rfl; intro W hSw; obtain ⟨s0', s1', s2', s3', s4'⟩ := (hSe W).1 hSw; go_simp; try (with_reducible rfl)) | (apply Or.inr; constructor; rfl; rfl)
  try simp only [Act.put, List.getElem_toArray, List.getElem_cons_succ, List.getElem_cons_zero, List.setIfInBounds_toArray, List.set_cons_zero, List.set_cons_succ]
  refine wpAnyH_take (i := 6) (v := ?_) rfl (by kernel_rfl) (by kernel_rfl) (by kernel_rfl) (fun _ _ _ h => h) ?_ (by assumption) ?_
  rotate_left 1
  · first | (apply Or.inl; constructor; rfl; intro W hSw; obtain ⟨s0', s1', s2', s3', s4'⟩ := (hSe W).1 hSw; go_simp; try (with_reducible rfl)) | (apply Or.inr; constructor; rfl; rfl)
  try simp only [Act.put, List.getElem_toArray, List.getElem_cons_succ, List.getElem_cons_zero, List.setIfInBounds_toArray, List.set_cons_zero, List.set_cons_succ]
  refine wpAnyH_ready (rs := [3]) (by kernel_rfl) (by simp) ?_
  refine AllReadyH.cons rfl (fun K hK => ?_) AllReadyH.nil
  go_simp
  obtain ⟨FP, g1, g2, g3⟩ := (HS.out.next (Keeps.refl _ w1).drew).prog_
  refine (reset_any n FP N B c _ g1 hN.out (by omega)).mono ?_
  rw [HR.out]
  rintro e w2 ⟨rfl, hd⟩
  have HS2 := g3 _ _ hd
  refine hK.out _ _ (hSk _ HS2.keepsW) (fun hHeld => ?_)
  clear hK K g1 g2 g3 hd
  refine wpAnyH_ready (rs := [7]) (by kernel_rfl) (by simp) ?_
  refine AllReadyH.cons rfl (fun K hK => ?_) AllReadyH.nil
  go_simp
  obtain ⟨FP, g1, g2, g3⟩ := (HS2).ref_
  refine (rreset_any x FP N B c _ g1 hN.out (by omega)).mono ?_
  rw [HR.out]
  rintro e w3 ⟨rfl, hd⟩
  have HS3 := g3 _ _ hd
  refine hK.out _ _ (hSk _ HS3.keepsW) (fun hHeld => ?_)
  clear hK K g1 g2 g3 hd
  refine wpAnyH_take (i := 8) (v := ?_) rfl (by kernel_rfl) (by kernel_rfl) (by kernel_rfl) (fun _ _ _ h => h) ?_ (by assumption) ?_
  rotate_left 1
  · first | (apply Or.inl; constructor; rfl; intro W hSw; obtain ⟨s0', s1', s2', s3', s4'⟩ := (hSe W).1 hSw; go_simp; try (with_reducible rfl)) | (apply Or.inr; constructor; rfl; rfl)
  try simp only [Act.put, List.getElem_toArray, List.getElem_cons_succ, List.getElem_cons_zero, List.setIfInBounds_toArray, List.set_cons_zero, List.set_cons_succ]
  refine wpAnyH_take (i := 9) (v := ?_) rfl (by kernel_rfl) (by kernel_rfl) (by kernel_rfl) (fun _ _ _ h => h) ?_ (by assumption) ?_
  rotate_left 1
  · first | (apply Or.inl; constructor; rfl; intro W hSw; obtain ⟨s0', s1', s2', s3', s4'⟩ := (hSe W).1 hSw; go_simp; try (with_reducible rfl)) | (apply Or.inr; constructor; rfl; rfl)
  try simp only [Act.put, List.getElem_toArray, List.getElem_cons_succ, List.getElem_cons_zero, List.setIfInBounds_toArray, List.set_cons_zero, List.set_cons_succ]
  refine wpAnyH_done (by kernel_rfl) ?_ _
  go_wp2_with fail
  go_ret
  exact ⟨by simp, N2, HOK.out.mono (by omega), HF.out _ _ HS3⟩
set_option maxRecDepth 100000 in
set_option maxHeartbeats 8000000 in
theorem does_5 (w : World) (F G : List Nat) (n x : Nat) (N : NS) (B c m : Int) (bv : Value) (b : List Int) (av : Value) (a : List Int) (P : DoesPre w F G n x N B m bv b av a) :
    Calls Try.prog 59 #[.pointer (some ⟨n, 0, none⟩), .pointer (some ⟨x, 0, none⟩), .agg #[.int .i64 5, .int .i64 c, .int .i64 m, bv, av]] w (DoesPost w F G n x B) := by
  obtain ⟨hs, hc5, hfin, hrb, hra⟩ := does_start (k := 5) (c := c) (T := 104) P
  have hN := hid P.ok
  have hB0 := P.b0
  have hB1 := P.b1
  have hlb := P.lb
  have hla := P.la
  have hm0 := P.m0
  have hm1 := P.m1
  obtain ⟨q0, q1, q2, q3, q4⟩ := hc5 _ (Keeps.refl _ _)
  have HS := hid hs
  have HC5 := hid hc5
  have HF := hid hfin
  have HRB := hid hrb
  have HRA := hid hra
  clear P hs hc5 hfin hrb hra
  obtain ⟨R, hR⟩ : ∃ R, openN N c m = R := ⟨_, rfl⟩
  have hok := okN_open hN.out c m
  rw [hR] at hok
  have HOK := hid hok
  have HR := hid hR
  clear hok hR
  obtain ⟨N2, r⟩ := R
  go_enter Try.func59, Try.ntmps59
  go_wp2_with fail
  obtain ⟨w1, hw1⟩ : ∃ x, w.alloc (.cells #[.int .i64 5, .int .i64 c, .int .i64 m, bv, av] 104) = x := ⟨_, rfl⟩
  rw [hw1] at HS HC5 HF HRB HRA q0 q1 q2 q3 q4 ⊢
  clear hw1
  obtain ⟨S, hSe⟩ : ∃ S : World → Prop, ∀ w', S w' ↔ C5 w.heap.size 5 c m bv av w' := ⟨_, fun _ => Iff.rfl⟩
  have hSk : ∀ W, Keeps (F ++ G) w1 W → S W := fun W hW => (hSe _).2 (HC5.out W hW)
  refine wp_region_held_drew (S := S) (by kernel_rfl) (hSk _ ((Keeps.refl _ w1).drew)) (fun hHeld => ?_)
  refine wpAnyH_take (i := 0) (v := ?_) rfl (by kernel_rfl) (by kernel_rfl) (by kernel_rfl) (fun _ _ _ h => h) ?_ (by assumption) ?_
  rotate_left 1
  · first | (apply Or.inl; constructor; rfl; intro W hSw; obtain ⟨s0', s1', s2', s3', s4'⟩ := (hSe W).1 hSw; go_simp; try (with_reducible rfl)) | (apply Or.inr; constructor; rfl; rfl)
  try simp only [Act.put, List.getElem_toArray, List.getElem_cons_succ, List.getElem_cons_zero, List.setIfInBounds_toArray, List.set_cons_zero, List.set_cons_succ]
  refine wpAnyH_take (i := 1) (v := ?_) rfl (by kernel_rfl) (by kernel_rfl) (by kernel_rfl) (fun _ _ _ h => h) ?_ (by assumption) ?_
  rotate_left 1
  · first | (apply Or.inl; constructor; rfl; intro W hSw; obtain ⟨s0', s1', s2', s3', s4'⟩ := (hSe W).1 hSw; go_simp; try (with_reducible rfl)) | (apply Or.inr; constructor; rfl; rfl)
  try simp only [Act.put, List.getElem_toArray, List.getElem_cons_succ, List.getElem_cons_zero, List.setIfInBounds_toArray, List.set_cons_zero, List.set_cons_succ]
  refine wpAnyH_take (i := 2) (v := ?_) rfl (by kernel_rfl) (by kernel_rfl) (by kernel_rfl) (fun _ _ _ h => h) ?_ (by assumption) ?_
  rotate_left 1
  · first | (apply Or.inl; constructor; rfl; intro W hSw; obtain ⟨s0', s1', s2', s3', s4'⟩ := (hSe W).1 hSw; go_simp; try (with_reducible rfl)) | (apply Or.inr; constructor; rfl; rfl)
  try simp only [Act.put, List.getElem_toArray, List.getElem_cons_succ, List.getElem_cons_zero, List.setIfInBounds_toArray, List.set_cons_zero, List.set_cons_succ]
  refine wpAnyH_take (i := 3) (v := ?_) rfl (by kernel_rfl) (by kernel_rfl) (by kernel_rfl) (fun _ _ _ h => h) ?_ (by assumption) ?_
  rotate_left 1
  · first | (apply Or.inl; constructor; rfl; intro W hSw; obtain ⟨s0', s1', s2', s3', s4'⟩ := (hSe W).1 hSw; go_simp; try (with_reducible rfl)) | (apply Or.inr; constructor; rfl; rfl)
  try simp only [Act.put, List.getElem_toArray, List.getElem_cons_succ, List.getElem_cons_zero, List.setIfInBounds_toArray, List.set_cons_zero, List.set_cons_succ]
  refine wpAnyH_take (i := 4) (v := ?_) rfl (by kernel_rfl) (by kernel_rfl) (by kernel_rfl) (fun _ _ _ h => h) ?_ (by assumption) ?_
  rotate_left 1
  · first | (apply Or.inl; constructor; rfl; intro W hSw; obtain ⟨s0', s1', s2', s3', s4'⟩ := (hSe W).1 hSw; go_simp; try (with_reducible rfl)) | (apply Or.inr; constructor; rfl; rfl)
  try simp only [Act.put, List.getElem_toArray, List.getElem_cons_succ, List.getElem_cons_zero, List.setIfInBounds_toArray, List.set_cons_zero, List.set_cons_succ]
  refine wpAnyH_take (i := 6) (v := ?_) rfl (by kernel_rfl) (by kernel_rfl) (by kernel_rfl) (fun _ _ _ h => h) ?_ (by assumption) ?_
  rotate_left 1
  · first | (apply Or.inl; constructor; rfl; intro W hSw; obtain ⟨s0', s1', s2', s3', s4'⟩ := (hSe W).1 hSw; go_simp; try (with_reducible rfl)) | (apply Or.inr; constructor; rfl; rfl)
  try simp only [Act.put, List.getElem_toArray, List.getElem_cons_succ, List.getElem_cons_zero, List.setIfInBounds_toArray, List.set_cons_zero, List.set_cons_succ]
  refine wpAnyH_take (i := 7) (v := ?_) rfl (by kernel_rfl) (by kernel_rfl) (by kernel_rfl) (fun _ _ _ h => h) ?_ (by assumption) ?_
  rotate_left 1
  · first | (apply Or.inl; constructor; rfl; intro W hSw; obtain ⟨s0', s1', s2', s3', s4'⟩ := (hSe W).1 hSw; go_simp; try (with_reducible rfl)) | (apply Or.inr; constructor; rfl; rfl)
  try simp only [Act.put, List.getElem_toArray, List.getElem_cons_succ, List.getElem_cons_zero, List.setIfInBounds_toArray, List.set_cons_zero, List.set_cons_succ]
  refine wpAnyH_take (i := 8) (v := ?_) rfl (by kernel_rfl) (by kernel_rfl) (by kernel_rfl) (fun _ _ _ h => h) ?_ (by assumption) ?_
  rotate_left 1
  · first | (apply Or.inl; constructor; rfl; intro W hSw; obtain ⟨s0', s1', s2', s3', s4'⟩ := (hSe W).1 hSw; go_simp; try (with_reducible rfl)) | (apply Or.inr; constructor; rfl; rfl)
  try simp only [Act.put, List.getElem_toArray, List.getElem_cons_succ, List.getElem_cons_zero, List.setIfInBounds_toArray, List.set_cons_zero, List.set_cons_succ]
  refine wpAnyH_take (i := 9) (v := ?_) rfl (by kernel_rfl) (by kernel_rfl) (by kernel_rfl) (fun _ _ _ h => h) ?_ (by assumption) ?_
  rotate_left 1
  · first | (apply Or.inl; constructor; rfl; intro W hSw; obtain ⟨s0', s1', s2', s3', s4'⟩ := (hSe W).1 hSw; go_simp; try (with_reducible rfl)) | (apply Or.inr; constructor; rfl; rfl)
  try simp only [Act.put, List.getElem_toArray, List.getElem_cons_succ, List.getElem_cons_zero, List.setIfInBounds_toArray, List.set_cons_zero, List.set_cons_succ]
  refine wpAnyH_take (i := 10) (v := ?_) rfl (by kernel_rfl) (by kernel_rfl) (by kernel_rfl) (fun _ _ _ h => h) ?_ (by assumption) ?_
  rotate_left 1
  · first | (apply Or.inl; constructor; rfl; intro W hSw; obtain ⟨s0', s1', s2', s3', s4'⟩ := (hSe W).1 hSw; go_simp; try (with_reducible rfl)) | (apply Or.inr; constructor; rfl; rfl)
  try simp only [Act.put, List.getElem_toArray, List.getElem_cons_succ, List.getElem_cons_zero, List.setIfInBounds_toArray, List.set_cons_zero, List.set_cons_succ]
  refine wpAnyH_ready (rs := [5]) (by kernel_rfl) (by simp) ?_
  refine AllReadyH.cons rfl (fun K hK => ?_) AllReadyH.nil
  go_simp
  obtain ⟨FP, g1, g2, g3⟩ := (HS.out.next (Keeps.refl _ w1).drew).prog_
  refine (open_any n FP N B c m _ g1 hN.out (by omega)).mono ?_
  rw [HR.out]
  rintro e w2 ⟨rfl, hd⟩
  have HS2 := g3 _ _ hd
  refine hK.out _ _ (hSk _ HS2.keepsW) (fun hHeld => ?_)
  clear hK K g1 g2 g3 hd
  refine wpAnyH_ready (rs := [11]) (by kernel_rfl) (by simp) ?_
  refine AllReadyH.cons rfl (fun K hK => ?_) AllReadyH.nil
  go_simp
  obtain ⟨FP, g1, g2, g3⟩ := (HS2).ref_
  refine (ropen_any x FP N B c m _ g1 hN.out (by omega)).mono ?_
  rw [HR.out]
  rintro e w3 ⟨rfl, hd⟩
  have HS3 := g3 _ _ hd
  refine hK.out _ _ (hSk _ HS3.keepsW) (fun hHeld => ?_)
  clear hK K g1 g2 g3 hd
  refine wpAnyH_take (i := 12) (v := ?_) rfl (by kernel_rfl) (by kernel_rfl) (by kernel_rfl) (fun _ _ _ h => h) ?_ (by assumption) ?_
  rotate_left 1
  · first | (apply Or.inl; constructor; rfl; intro W hSw; obtain ⟨s0', s1', s2', s3', s4'⟩ := (hSe W).1 hSw; go_simp; try (with_reducible rfl)) | (apply Or.inr; constructor; rfl; rfl)
  try simp only [Act.put, List.getElem_toArray, List.getElem_cons_succ, List.getElem_cons_zero, List.setIfInBounds_toArray, List.set_cons_zero, List.set_cons_succ]
  refine wpAnyH_take (i := 13) (v := ?_) rfl (by kernel_rfl) (by kernel_rfl) (by kernel_rfl) (fun _ _ _ h => h) ?_ (by assumption) ?_
  rotate_left 1
  · first | (apply Or.inl; constructor; rfl; intro W hSw; obtain ⟨s0', s1', s2', s3', s4'⟩ := (hSe W).1 hSw; go_simp; try (with_reducible rfl)) | (apply Or.inr; constructor; rfl; rfl)
  try simp only [Act.put, List.getElem_toArray, List.getElem_cons_succ, List.getElem_cons_zero, List.setIfInBounds_toArray, List.set_cons_zero, List.set_cons_succ]
  refine wpAnyH_done (by kernel_rfl) ?_ _
  go_wp2_with fail
  go_ret
  exact ⟨by simp, N2, HOK.out.mono (by omega), HF.out _ _ HS3⟩
set_option maxRecDepth 100000 in
set_option maxHeartbeats 8000000 in
theorem does_10 (w : World) (F G : List Nat) (n x : Nat) (N : NS) (B c m : Int) (bv : Value) (b : List Int) (av : Value) (a : List Int) (P : DoesPre w F G n x N B m bv b av a) :
    Calls Try.prog 59 #[.pointer (some ⟨n, 0, none⟩), .pointer (some ⟨x, 0, none⟩), .agg #[.int .i64 10, .int .i64 c, .int .i64 m, bv, av]] w (DoesPost w F G n x B) := by
  obtain ⟨hs, hc5, hfin, hrb, hra⟩ := does_start (k := 10) (c := c) (T := 104) P
  have hN := hid P.ok
  have hB0 := P.b0
  have hB1 := P.b1
  have hlb := P.lb
  have hla := P.la
  have hm0 := P.m0
  have hm1 := P.m1
  obtain ⟨q0, q1, q2, q3, q4⟩ := hc5 _ (Keeps.refl _ _)
  have HS := hid hs
  have HC5 := hid hc5
  have HF := hid hfin
  have HRB := hid hrb
  have HRA := hid hra
  clear P hs hc5 hfin hrb hra
  obtain ⟨R, hR⟩ : ∃ R, shutN N c = R := ⟨_, rfl⟩
  have hok := okN_shut hN.out c
  rw [hR] at hok
  have HOK := hid hok
  have HR := hid hR
  clear hok hR
  obtain ⟨N2, r⟩ := R
  go_enter Try.func59, Try.ntmps59
  go_wp2_with fail
  obtain ⟨w1, hw1⟩ : ∃ x, w.alloc (.cells #[.int .i64 10, .int .i64 c, .int .i64 m, bv, av] 104) = x := ⟨_, rfl⟩
  rw [hw1] at HS HC5 HF HRB HRA q0 q1 q2 q3 q4 ⊢
  clear hw1
  obtain ⟨S, hSe⟩ : ∃ S : World → Prop, ∀ w', S w' ↔ C5 w.heap.size 10 c m bv av w' := ⟨_, fun _ => Iff.rfl⟩
  have hSk : ∀ W, Keeps (F ++ G) w1 W → S W := fun W hW => (hSe _).2 (HC5.out W hW)
  refine wp_region_held_drew (S := S) (by kernel_rfl) (hSk _ ((Keeps.refl _ w1).drew)) (fun hHeld => ?_)
  refine wpAnyH_take (i := 0) (v := ?_) rfl (by kernel_rfl) (by kernel_rfl) (by kernel_rfl) (fun _ _ _ h => h) ?_ (by assumption) ?_
  rotate_left 1
  · first | (apply Or.inl; constructor; rfl; intro W hSw; obtain ⟨s0', s1', s2', s3', s4'⟩ := (hSe W).1 hSw; go_simp; try (with_reducible rfl)) | (apply Or.inr; constructor; rfl; rfl)
  try simp only [Act.put, List.getElem_toArray, List.getElem_cons_succ, List.getElem_cons_zero, List.setIfInBounds_toArray, List.set_cons_zero, List.set_cons_succ]
  refine wpAnyH_take (i := 1) (v := ?_) rfl (by kernel_rfl) (by kernel_rfl) (by kernel_rfl) (fun _ _ _ h => h) ?_ (by assumption) ?_
  rotate_left 1
  · first | (apply Or.inl; constructor; rfl; intro W hSw; obtain ⟨s0', s1', s2', s3', s4'⟩ := (hSe W).1 hSw; go_simp; try (with_reducible rfl)) | (apply Or.inr; constructor; rfl; rfl)
  try simp only [Act.put, List.getElem_toArray, List.getElem_cons_succ, List.getElem_cons_zero, List.setIfInBounds_toArray, List.set_cons_zero, List.set_cons_succ]
  refine wpAnyH_take (i := 2) (v := ?_) rfl (by kernel_rfl) (by kernel_rfl) (by kernel_rfl) (fun _ _ _ h => h) ?_ (by assumption) ?_
  rotate_left 1
  · first | (apply Or.inl; constructor; rfl; intro W hSw; obtain ⟨s0', s1', s2', s3', s4'⟩ := (hSe W).1 hSw; go_simp; try (with_reducible rfl)) | (apply Or.inr; constructor; rfl; rfl)
  try simp only [Act.put, List.getElem_toArray, List.getElem_cons_succ, List.getElem_cons_zero, List.setIfInBounds_toArray, List.set_cons_zero, List.set_cons_succ]
  refine wpAnyH_take (i := 4) (v := ?_) rfl (by kernel_rfl) (by kernel_rfl) (by kernel_rfl) (fun _ _ _ h => h) ?_ (by assumption) ?_
  rotate_left 1
  · first | (apply Or.inl; constructor; rfl; intro W hSw; obtain ⟨s0', s1', s2', s3', s4'⟩ := (hSe W).1 hSw; go_simp; try (with_reducible rfl)) | (apply Or.inr; constructor; rfl; rfl)
  try simp only [Act.put, List.getElem_toArray, List.getElem_cons_succ, List.getElem_cons_zero, List.setIfInBounds_toArray, List.set_cons_zero, List.set_cons_succ]
  refine wpAnyH_take (i := 5) (v := ?_) rfl (by kernel_rfl) (by kernel_rfl) (by kernel_rfl) (fun _ _ _ h => h) ?_ (by assumption) ?_
  rotate_left 1
  · first | (apply Or.inl; constructor; rfl; intro W hSw; obtain ⟨s0', s1', s2', s3', s4'⟩ := (hSe W).1 hSw; go_simp; try (with_reducible rfl)) | (apply Or.inr; constructor; rfl; rfl)
  try simp only [Act.put, List.getElem_toArray, List.getElem_cons_succ, List.getElem_cons_zero, List.setIfInBounds_toArray, List.set_cons_zero, List.set_cons_succ]
  refine wpAnyH_take (i := 6) (v := ?_) rfl (by kernel_rfl) (by kernel_rfl) (by kernel_rfl) (fun _ _ _ h => h) ?_ (by assumption) ?_
  rotate_left 1
  · first | (apply Or.inl; constructor; rfl; intro W hSw; obtain ⟨s0', s1', s2', s3', s4'⟩ := (hSe W).1 hSw; go_simp; try (with_reducible rfl)) | (apply Or.inr; constructor; rfl; rfl)
  try simp only [Act.put, List.getElem_toArray, List.getElem_cons_succ, List.getElem_cons_zero, List.setIfInBounds_toArray, List.set_cons_zero, List.set_cons_succ]
  refine wpAnyH_ready (rs := [3]) (by kernel_rfl) (by simp) ?_
  refine AllReadyH.cons rfl (fun K hK => ?_) AllReadyH.nil
  go_simp
  obtain ⟨FP, g1, g2, g3⟩ := (HS.out.next (Keeps.refl _ w1).drew).prog_
  refine (shut_any n FP N B c _ g1 hN.out (by omega)).mono ?_
  rw [HR.out]
  rintro e w2 ⟨rfl, hd⟩
  have HS2 := g3 _ _ hd
  refine hK.out _ _ (hSk _ HS2.keepsW) (fun hHeld => ?_)
  clear hK K g1 g2 g3 hd
  refine wpAnyH_ready (rs := [7]) (by kernel_rfl) (by simp) ?_
  refine AllReadyH.cons rfl (fun K hK => ?_) AllReadyH.nil
  go_simp
  obtain ⟨FP, g1, g2, g3⟩ := (HS2).ref_
  refine (rshut_any x FP N B c _ g1 hN.out (by omega)).mono ?_
  rw [HR.out]
  rintro e w3 ⟨rfl, hd⟩
  have HS3 := g3 _ _ hd
  refine hK.out _ _ (hSk _ HS3.keepsW) (fun hHeld => ?_)
  clear hK K g1 g2 g3 hd
  refine wpAnyH_take (i := 8) (v := ?_) rfl (by kernel_rfl) (by kernel_rfl) (by kernel_rfl) (fun _ _ _ h => h) ?_ (by assumption) ?_
  rotate_left 1
  · first | (apply Or.inl; constructor; rfl; intro W hSw; obtain ⟨s0', s1', s2', s3', s4'⟩ := (hSe W).1 hSw; go_simp; try (with_reducible rfl)) | (apply Or.inr; constructor; rfl; rfl)
  try simp only [Act.put, List.getElem_toArray, List.getElem_cons_succ, List.getElem_cons_zero, List.setIfInBounds_toArray, List.set_cons_zero, List.set_cons_succ]
  refine wpAnyH_take (i := 9) (v := ?_) rfl (by kernel_rfl) (by kernel_rfl) (by kernel_rfl) (fun _ _ _ h => h) ?_ (by assumption) ?_
  rotate_left 1
  · first | (apply Or.inl; constructor; rfl; intro W hSw; obtain ⟨s0', s1', s2', s3', s4'⟩ := (hSe W).1 hSw; go_simp; try (with_reducible rfl)) | (apply Or.inr; constructor; rfl; rfl)
  try simp only [Act.put, List.getElem_toArray, List.getElem_cons_succ, List.getElem_cons_zero, List.setIfInBounds_toArray, List.set_cons_zero, List.set_cons_succ]
  refine wpAnyH_done (by kernel_rfl) ?_ _
  go_wp2_with fail
  go_ret
  exact ⟨by simp, N2, HOK.out.mono (by omega), HF.out _ _ HS3⟩
end Go.Proofs.Ytkeffebcmajhmaa
