/- PollPlays: wire, kinds 5, 6, 8, 9. -/
import Derived.Test.YtkeffebcmajhmaaPq31
namespace Go.Proofs.Ytkeffebcmajhmaa
open Go.RowKit
set_option linter.unusedVariables false
set_option linter.unusedSimpArgs false
set_option maxRecDepth 100000 in
set_option maxHeartbeats 8000000 in
theorem wire_5 (w W : World) (pb n xb x q : Nat) (F G : List Nat) (N : NS) (L : List Slot) (ds : WL) (K : List Slot) (c : Int) (D : Nat → Wd) (gv : Value) (hs : List (Int × Int)) (B cc kk : Int) (r u b : Bool) (pv : Value) (h : PB w W pb n xb x q F G N L ds N K c D gv hs []) (hN : OkN N B) (hB : B ≤ 1099511627776) :
    Calls Try.prog 68 #[.pointer (some ⟨q, 0, none⟩), .agg (actA 5 cc kk r u b pv)] W fun e w' => e = .returned (.tuple #[]) ∧ ∃ F1 G1, PB w w' pb n xb x q F1 G1 (wireN 5 N cc kk) L ds (wireN 5 N cc kk) K c D gv hs [] := by
  have hw : wireN 5 N cc kk = (connectN N (bits .and .i64 kk 3)).1 := by simp [wireN]
  rw [hw]
  clear hw
  have hk1 := ((Keeps.refl [] W).alloc (.cells (actA 5 cc kk r u b pv) actT)).alloc (.cells #[.int .u8 7] 5)
  have h1 := (h.put (W.heap.size, actT, actA 5 cc kk r u b pv) ((Keeps.refl [] W).alloc (.cells (actA 5 cc kk r u b pv) actT)) (Blk.new W _ _) (Nat.le_refl _)).put (W.heap.size + 1, 5, #[.int .u8 7]) ((Keeps.refl [] _).alloc (.cells #[.int .u8 7] 5)) (Blk.newAt (by simp)) (by simp)
  have H1 := hid h1
  clear h h1 hk1
  obtain ⟨S, hSe⟩ : ∃ S : World → Prop, ∀ w', S w' ↔ (w'.cell? ⟨q, 0, none⟩ = some (.pointer (some ⟨pb, 0, none⟩)) ∧ w'.cell? ⟨q, 1, none⟩ = some (.pointer (some ⟨xb, 0, none⟩)) ∧ w'.cell? ⟨pb, 0, none⟩ = some (.pointer (some ⟨n, 0, none⟩)) ∧ w'.cell? ⟨xb, 0, none⟩ = some (.pointer (some ⟨x, 0, none⟩)) ∧ w'.cell? ⟨W.heap.size, 1, none⟩ = some (.int .i64 cc) ∧ w'.cell? ⟨W.heap.size, 2, none⟩ = some (.int .i64 kk)) := ⟨_, fun _ => Iff.rfl⟩
  have hSP : ∀ {w' : World} {F G : List Nat} {N1 M1 : NS}, PB w w' pb n xb x q F G N1 L ds M1 K c D gv hs [(W.heap.size + 1, 5, #[.int .u8 7]), (W.heap.size, actT, actA 5 cc kk r u b pv)] → S w' := fun h => (hSe _).2 ⟨h.cells.1, h.cells.2.1, h.cells.2.2.2.1, h.cells.2.2.2.2, by simpa using (h.aside (W.heap.size, actT, actA 5 cc kk r u b pv) (by simp)).1.cell 1, by simpa using (h.aside (W.heap.size, actT, actA 5 cc kk r u b pv) (by simp)).1.cell 2⟩
  go_enter Try.func68, Try.ntmps68
  go_wp2_with fail
  refine wp_region_held_drew (S := S) (by kernel_rfl) (hSP (H1.out.next (Keeps.refl [] _).drew)) (fun hHeld => ?_)
  refine wpAnyH_take (i := 0) (v := ?_) rfl (by kernel_rfl) (by kernel_rfl) (by kernel_rfl) (fun _ _ _ h => h) ?_ (by assumption) ?_
  rotate_left 1
  · first | (apply Or.inl; constructor; rfl; intro Wx hSw; obtain ⟨s1_, s2_, s3_, s4_, s5_, s6_⟩ := (hSe _).1 hSw; go_simp; try (with_reducible rfl)) | (apply Or.inr; constructor; rfl; rfl)
  try simp only [Act.put, List.getElem_toArray, List.getElem_cons_succ, List.getElem_cons_zero, List.setIfInBounds_toArray, List.set_cons_zero, List.set_cons_succ]
  refine wpAnyH_take (i := 1) (v := ?_) rfl (by kernel_rfl) (by kernel_rfl) (by kernel_rfl) (fun _ _ _ h => h) ?_ (by assumption) ?_
  rotate_left 1
  · first | (apply Or.inl; constructor; rfl; intro Wx hSw; obtain ⟨s1_, s2_, s3_, s4_, s5_, s6_⟩ := (hSe _).1 hSw; go_simp; try (with_reducible rfl)) | (apply Or.inr; constructor; rfl; rfl)
  try simp only [Act.put, List.getElem_toArray, List.getElem_cons_succ, List.getElem_cons_zero, List.setIfInBounds_toArray, List.set_cons_zero, List.set_cons_succ]
  refine wpAnyH_take (i := 2) (v := ?_) rfl (by kernel_rfl) (by kernel_rfl) (by kernel_rfl) (fun _ _ _ h => h) ?_ (by assumption) ?_
  rotate_left 1
  · first | (apply Or.inl; constructor; rfl; intro Wx hSw; obtain ⟨s1_, s2_, s3_, s4_, s5_, s6_⟩ := (hSe _).1 hSw; go_simp; try (with_reducible rfl)) | (apply Or.inr; constructor; rfl; rfl)
  try simp only [Act.put, List.getElem_toArray, List.getElem_cons_succ, List.getElem_cons_zero, List.setIfInBounds_toArray, List.set_cons_zero, List.set_cons_succ]
  refine wpAnyH_take (i := 3) (v := ?_) rfl (by kernel_rfl) (by kernel_rfl) (by kernel_rfl) (fun _ _ _ h => h) ?_ (by assumption) ?_
  rotate_left 1
  · first | (apply Or.inl; constructor; rfl; intro Wx hSw; obtain ⟨s1_, s2_, s3_, s4_, s5_, s6_⟩ := (hSe _).1 hSw; go_simp; try (with_reducible rfl)) | (apply Or.inr; constructor; rfl; rfl)
  try simp only [Act.put, List.getElem_toArray, List.getElem_cons_succ, List.getElem_cons_zero, List.setIfInBounds_toArray, List.set_cons_zero, List.set_cons_succ]
  refine wpAnyH_take (i := 4) (v := ?_) rfl (by kernel_rfl) (by kernel_rfl) (by kernel_rfl) (fun _ _ _ h => h) ?_ (by assumption) ?_
  rotate_left 1
  · first | (apply Or.inl; constructor; rfl; intro Wx hSw; obtain ⟨s1_, s2_, s3_, s4_, s5_, s6_⟩ := (hSe _).1 hSw; go_simp; try (with_reducible rfl)) | (apply Or.inr; constructor; rfl; rfl)
  try simp only [Act.put, List.getElem_toArray, List.getElem_cons_succ, List.getElem_cons_zero, List.setIfInBounds_toArray, List.set_cons_zero, List.set_cons_succ]
  refine wpAnyH_take (i := 5) (v := ?_) rfl (by kernel_rfl) (by kernel_rfl) (by kernel_rfl) (fun _ _ _ h => h) ?_ (by assumption) ?_
  rotate_left 1
  · first | (apply Or.inl; constructor; rfl; intro Wx hSw; obtain ⟨s1_, s2_, s3_, s4_, s5_, s6_⟩ := (hSe _).1 hSw; go_simp; try (with_reducible rfl)) | (apply Or.inr; constructor; rfl; rfl)
  try simp only [Act.put, List.getElem_toArray, List.getElem_cons_succ, List.getElem_cons_zero, List.setIfInBounds_toArray, List.set_cons_zero, List.set_cons_succ]
  refine wpAnyH_take (i := 6) (v := ?_) rfl (by kernel_rfl) (by kernel_rfl) (by kernel_rfl) (fun _ _ _ h => h) ?_ (by assumption) ?_
  rotate_left 1
  · first | (apply Or.inl; constructor; rfl; intro Wx hSw; obtain ⟨s1_, s2_, s3_, s4_, s5_, s6_⟩ := (hSe _).1 hSw; go_simp; try (with_reducible rfl)) | (apply Or.inr; constructor; rfl; rfl)
  try simp only [Act.put, List.getElem_toArray, List.getElem_cons_succ, List.getElem_cons_zero, List.setIfInBounds_toArray, List.set_cons_zero, List.set_cons_succ]
  refine wpAnyH_take (i := 7) (v := ?_) rfl (by kernel_rfl) (by kernel_rfl) (by kernel_rfl) (fun _ _ _ h => h) ?_ (by assumption) ?_
  rotate_left 1
  · first | (apply Or.inl; constructor; rfl; intro Wx hSw; obtain ⟨s1_, s2_, s3_, s4_, s5_, s6_⟩ := (hSe _).1 hSw; go_simp; try (with_reducible rfl)) | (apply Or.inr; constructor; rfl; rfl)
  try simp only [Act.put, List.getElem_toArray, List.getElem_cons_succ, List.getElem_cons_zero, List.setIfInBounds_toArray, List.set_cons_zero, List.set_cons_succ]
  refine wpAnyH_take (i := 8) (v := ?_) rfl (by kernel_rfl) (by kernel_rfl) (by kernel_rfl) (fun _ _ _ h => h) ?_ (by assumption) ?_
  rotate_left 1
  · first | (apply Or.inl; constructor; rfl; intro Wx hSw; obtain ⟨s1_, s2_, s3_, s4_, s5_, s6_⟩ := (hSe _).1 hSw; go_simp; try (with_reducible rfl)) | (apply Or.inr; constructor; rfl; rfl)
  try simp only [Act.put, List.getElem_toArray, List.getElem_cons_succ, List.getElem_cons_zero, List.setIfInBounds_toArray, List.set_cons_zero, List.set_cons_succ]
  refine wpAnyH_take (i := 9) (v := ?_) rfl (by kernel_rfl) (by kernel_rfl) (by kernel_rfl) (fun _ _ _ h => h) ?_ (by assumption) ?_
  rotate_left 1
  · first | (apply Or.inl; constructor; rfl; intro Wx hSw; obtain ⟨s1_, s2_, s3_, s4_, s5_, s6_⟩ := (hSe _).1 hSw; go_simp; try (with_reducible rfl)) | (apply Or.inr; constructor; rfl; rfl)
  try simp only [Act.put, List.getElem_toArray, List.getElem_cons_succ, List.getElem_cons_zero, List.setIfInBounds_toArray, List.set_cons_zero, List.set_cons_succ]
  refine wpAnyH_ready (rs := [10]) (by kernel_rfl) (by simp) ?_
  refine AllReadyH.cons rfl (fun K1 hK => ?_) AllReadyH.nil
  go_simp
  obtain ⟨Fn, f1, f2, f3⟩ := (H1.out.next (Keeps.refl [] _).drew).pnet
  refine (connect_any n Fn N B (bits .and .i64 kk 3) _ f1 hN hB).mono ?_
  rintro e w2 ⟨rfl, hd⟩
  obtain ⟨F1, h2⟩ := f3 _ _ hd
  have H2 := hid h2
  refine hK.out _ _ (hSP h2) (fun hHeld => ?_)
  clear hK K1 f1 f2 f3 h2 hd
  refine wpAnyH_done (by kernel_rfl) ?_ _
  go_wp2_with fail
  refine wp_region_held_drew (S := S) (by kernel_rfl) (hSP (H2.out.next (Keeps.refl [] _).drew)) (fun hHeld => ?_)
  refine wpAnyH_take (i := 0) (v := ?_) rfl (by kernel_rfl) (by kernel_rfl) (by kernel_rfl) (fun _ _ _ h => h) ?_ (by assumption) ?_
  rotate_left 1
  · first | (apply Or.inl; constructor; rfl; intro Wx hSw; obtain ⟨s1_, s2_, s3_, s4_, s5_, s6_⟩ := (hSe _).1 hSw; go_simp; try (with_reducible rfl)) | (apply Or.inr; constructor; rfl; rfl)
  try simp only [Act.put, List.getElem_toArray, List.getElem_cons_succ, List.getElem_cons_zero, List.setIfInBounds_toArray, List.set_cons_zero, List.set_cons_succ]
  refine wpAnyH_take (i := 1) (v := ?_) rfl (by kernel_rfl) (by kernel_rfl) (by kernel_rfl) (fun _ _ _ h => h) ?_ (by assumption) ?_
  rotate_left 1
  · first | (apply Or.inl; constructor; rfl; intro Wx hSw; obtain ⟨s1_, s2_, s3_, s4_, s5_, s6_⟩ := (hSe _).1 hSw; go_simp; try (with_reducible rfl)) | (apply Or.inr; constructor; rfl; rfl)
  try simp only [Act.put, List.getElem_toArray, List.getElem_cons_succ, List.getElem_cons_zero, List.setIfInBounds_toArray, List.set_cons_zero, List.set_cons_succ]
  refine wpAnyH_take (i := 2) (v := ?_) rfl (by kernel_rfl) (by kernel_rfl) (by kernel_rfl) (fun _ _ _ h => h) ?_ (by assumption) ?_
  rotate_left 1
  · first | (apply Or.inl; constructor; rfl; intro Wx hSw; obtain ⟨s1_, s2_, s3_, s4_, s5_, s6_⟩ := (hSe _).1 hSw; go_simp; try (with_reducible rfl)) | (apply Or.inr; constructor; rfl; rfl)
  try simp only [Act.put, List.getElem_toArray, List.getElem_cons_succ, List.getElem_cons_zero, List.setIfInBounds_toArray, List.set_cons_zero, List.set_cons_succ]
  refine wpAnyH_take (i := 3) (v := ?_) rfl (by kernel_rfl) (by kernel_rfl) (by kernel_rfl) (fun _ _ _ h => h) ?_ (by assumption) ?_
  rotate_left 1
  · first | (apply Or.inl; constructor; rfl; intro Wx hSw; obtain ⟨s1_, s2_, s3_, s4_, s5_, s6_⟩ := (hSe _).1 hSw; go_simp; try (with_reducible rfl)) | (apply Or.inr; constructor; rfl; rfl)
  try simp only [Act.put, List.getElem_toArray, List.getElem_cons_succ, List.getElem_cons_zero, List.setIfInBounds_toArray, List.set_cons_zero, List.set_cons_succ]
  refine wpAnyH_take (i := 4) (v := ?_) rfl (by kernel_rfl) (by kernel_rfl) (by kernel_rfl) (fun _ _ _ h => h) ?_ (by assumption) ?_
  rotate_left 1
  · first | (apply Or.inl; constructor; rfl; intro Wx hSw; obtain ⟨s1_, s2_, s3_, s4_, s5_, s6_⟩ := (hSe _).1 hSw; go_simp; try (with_reducible rfl)) | (apply Or.inr; constructor; rfl; rfl)
  try simp only [Act.put, List.getElem_toArray, List.getElem_cons_succ, List.getElem_cons_zero, List.setIfInBounds_toArray, List.set_cons_zero, List.set_cons_succ]
  refine wpAnyH_take (i := 5) (v := ?_) rfl (by kernel_rfl) (by kernel_rfl) (by kernel_rfl) (fun _ _ _ h => h) ?_ (by assumption) ?_
  rotate_left 1
  · first | (apply Or.inl; constructor; rfl; intro Wx hSw; obtain ⟨s1_, s2_, s3_, s4_, s5_, s6_⟩ := (hSe _).1 hSw; go_simp; try (with_reducible rfl)) | (apply Or.inr; constructor; rfl; rfl)
  try simp only [Act.put, List.getElem_toArray, List.getElem_cons_succ, List.getElem_cons_zero, List.setIfInBounds_toArray, List.set_cons_zero, List.set_cons_succ]
  refine wpAnyH_take (i := 6) (v := ?_) rfl (by kernel_rfl) (by kernel_rfl) (by kernel_rfl) (fun _ _ _ h => h) ?_ (by assumption) ?_
  rotate_left 1
  · first | (apply Or.inl; constructor; rfl; intro Wx hSw; obtain ⟨s1_, s2_, s3_, s4_, s5_, s6_⟩ := (hSe _).1 hSw; go_simp; try (with_reducible rfl)) | (apply Or.inr; constructor; rfl; rfl)
  try simp only [Act.put, List.getElem_toArray, List.getElem_cons_succ, List.getElem_cons_zero, List.setIfInBounds_toArray, List.set_cons_zero, List.set_cons_succ]
  refine wpAnyH_take (i := 7) (v := ?_) rfl (by kernel_rfl) (by kernel_rfl) (by kernel_rfl) (fun _ _ _ h => h) ?_ (by assumption) ?_
  rotate_left 1
  · first | (apply Or.inl; constructor; rfl; intro Wx hSw; obtain ⟨s1_, s2_, s3_, s4_, s5_, s6_⟩ := (hSe _).1 hSw; go_simp; try (with_reducible rfl)) | (apply Or.inr; constructor; rfl; rfl)
  try simp only [Act.put, List.getElem_toArray, List.getElem_cons_succ, List.getElem_cons_zero, List.setIfInBounds_toArray, List.set_cons_zero, List.set_cons_succ]
  refine wpAnyH_take (i := 8) (v := ?_) rfl (by kernel_rfl) (by kernel_rfl) (by kernel_rfl) (fun _ _ _ h => h) ?_ (by assumption) ?_
  rotate_left 1
  · first | (apply Or.inl; constructor; rfl; intro Wx hSw; obtain ⟨s1_, s2_, s3_, s4_, s5_, s6_⟩ := (hSe _).1 hSw; go_simp; try (with_reducible rfl)) | (apply Or.inr; constructor; rfl; rfl)
  try simp only [Act.put, List.getElem_toArray, List.getElem_cons_succ, List.getElem_cons_zero, List.setIfInBounds_toArray, List.set_cons_zero, List.set_cons_succ]
  refine wpAnyH_take (i := 9) (v := ?_) rfl (by kernel_rfl) (by kernel_rfl) (by kernel_rfl) (fun _ _ _ h => h) ?_ (by assumption) ?_
  rotate_left 1
  · first | (apply Or.inl; constructor; rfl; intro Wx hSw; obtain ⟨s1_, s2_, s3_, s4_, s5_, s6_⟩ := (hSe _).1 hSw; go_simp; try (with_reducible rfl)) | (apply Or.inr; constructor; rfl; rfl)
  try simp only [Act.put, List.getElem_toArray, List.getElem_cons_succ, List.getElem_cons_zero, List.setIfInBounds_toArray, List.set_cons_zero, List.set_cons_succ]
  refine wpAnyH_ready (rs := [10]) (by kernel_rfl) (by simp) ?_
  refine AllReadyH.cons rfl (fun K1 hK => ?_) AllReadyH.nil
  go_simp
  obtain ⟨Fn, f1, f2, f3⟩ := (H2.out.next (Keeps.refl [] _).drew).rnet
  refine (rconnect_any x Fn N B (bits .and .i64 kk 3) _ f1 hN hB).mono ?_
  rintro e w2 ⟨rfl, hd⟩
  obtain ⟨G1, h2⟩ := f3 _ _ hd
  have H3 := hid h2
  refine hK.out _ _ (hSP h2) (fun hHeld => ?_)
  clear hK K1 f1 f2 f3 h2 hd
  refine wpAnyH_done (by kernel_rfl) ?_ _
  go_wp2_with fail
  first | (refine bodyPost_end (results_none rfl _ _ _) rfl ?_) | skip
  exact ⟨rfl, F1, G1, H3.out.away (A' := []) (by simp)⟩
set_option maxRecDepth 100000 in
set_option maxHeartbeats 8000000 in
theorem wire_6 (w W : World) (pb n xb x q : Nat) (F G : List Nat) (N : NS) (L : List Slot) (ds : WL) (K : List Slot) (c : Int) (D : Nat → Wd) (gv : Value) (hs : List (Int × Int)) (B cc kk : Int) (r u b : Bool) (pv : Value) (h : PB w W pb n xb x q F G N L ds N K c D gv hs []) (hN : OkN N B) (hB : B ≤ 1099511627776) :
    Calls Try.prog 68 #[.pointer (some ⟨q, 0, none⟩), .agg (actA 6 cc kk r u b pv)] W fun e w' => e = .returned (.tuple #[]) ∧ ∃ F1 G1, PB w w' pb n xb x q F1 G1 (wireN 6 N cc kk) L ds (wireN 6 N cc kk) K c D gv hs [] := by
  have hw : wireN 6 N cc kk = (acceptN N).1 := by simp [wireN]
  rw [hw]
  clear hw
  have hk1 := ((Keeps.refl [] W).alloc (.cells (actA 6 cc kk r u b pv) actT)).alloc (.cells #[.int .u8 7] 5)
  have h1 := (h.put (W.heap.size, actT, actA 6 cc kk r u b pv) ((Keeps.refl [] W).alloc (.cells (actA 6 cc kk r u b pv) actT)) (Blk.new W _ _) (Nat.le_refl _)).put (W.heap.size + 1, 5, #[.int .u8 7]) ((Keeps.refl [] _).alloc (.cells #[.int .u8 7] 5)) (Blk.newAt (by simp)) (by simp)
  have H1 := hid h1
  clear h h1 hk1
  go_enter Try.func68, Try.ntmps68
  obtain ⟨d1_, d2_, d3_, d4_, d5_⟩ := H1.out.cells
  go_wp2_with (first | (go_at_call 36; obtain ⟨Fn, f1, f2, f3⟩ := H1.out.pnet; refine (accept_any n Fn N B _ f1 hN hB).mono ?_; rintro e w2 ⟨rfl, hd⟩; obtain ⟨F1, h2⟩ := f3 _ _ hd; have H2 := hid h2; clear f1 f2 f3 h2 hd d1_ d2_ d3_ d4_ d5_; obtain ⟨d1_, d2_, d3_, d4_, d5_⟩ := H2.out.cells) | (go_at_call 87; obtain ⟨Fn, f1, f2, f3⟩ := H2.out.rnet; refine (raccept_any x Fn N B _ f1 hN hB).mono ?_; rintro e w2 ⟨rfl, hd⟩; obtain ⟨G1, h2⟩ := f3 _ _ hd; have H3 := hid h2; clear f1 f2 f3 h2 hd d1_ d2_ d3_ d4_ d5_))
  first | (refine bodyPost_end (results_none rfl _ _ _) rfl ?_) | skip
  exact ⟨rfl, F1, G1, H3.out.away (A' := []) (by simp)⟩
set_option maxRecDepth 100000 in
set_option maxHeartbeats 8000000 in
theorem wire_8 (w W : World) (pb n xb x q : Nat) (F G : List Nat) (N : NS) (L : List Slot) (ds : WL) (K : List Slot) (c : Int) (D : Nat → Wd) (gv : Value) (hs : List (Int × Int)) (B cc kk : Int) (r u b : Bool) (pv : Value) (h : PB w W pb n xb x q F G N L ds N K c D gv hs []) (hN : OkN N B) (hB : B ≤ 1099511627776) :
    Calls Try.prog 68 #[.pointer (some ⟨q, 0, none⟩), .agg (actA 8 cc kk r u b pv)] W fun e w' => e = .returned (.tuple #[]) ∧ ∃ F1 G1, PB w w' pb n xb x q F1 G1 (wireN 8 N cc kk) L ds (wireN 8 N cc kk) K c D gv hs [] := by
  have hw : wireN 8 N cc kk = (openN N cc kk).1 := by simp [wireN]
  rw [hw]
  clear hw
  have hk1 := ((Keeps.refl [] W).alloc (.cells (actA 8 cc kk r u b pv) actT)).alloc (.cells #[.int .u8 7] 5)
  have h1 := (h.put (W.heap.size, actT, actA 8 cc kk r u b pv) ((Keeps.refl [] W).alloc (.cells (actA 8 cc kk r u b pv) actT)) (Blk.new W _ _) (Nat.le_refl _)).put (W.heap.size + 1, 5, #[.int .u8 7]) ((Keeps.refl [] _).alloc (.cells #[.int .u8 7] 5)) (Blk.newAt (by simp)) (by simp)
  have H1 := hid h1
  clear h h1 hk1
  obtain ⟨S, hSe⟩ : ∃ S : World → Prop, ∀ w', S w' ↔ (w'.cell? ⟨q, 0, none⟩ = some (.pointer (some ⟨pb, 0, none⟩)) ∧ w'.cell? ⟨q, 1, none⟩ = some (.pointer (some ⟨xb, 0, none⟩)) ∧ w'.cell? ⟨pb, 0, none⟩ = some (.pointer (some ⟨n, 0, none⟩)) ∧ w'.cell? ⟨xb, 0, none⟩ = some (.pointer (some ⟨x, 0, none⟩)) ∧ w'.cell? ⟨W.heap.size, 1, none⟩ = some (.int .i64 cc) ∧ w'.cell? ⟨W.heap.size, 2, none⟩ = some (.int .i64 kk)) := ⟨_, fun _ => Iff.rfl⟩
  have hSP : ∀ {w' : World} {F G : List Nat} {N1 M1 : NS}, PB w w' pb n xb x q F G N1 L ds M1 K c D gv hs [(W.heap.size + 1, 5, #[.int .u8 7]), (W.heap.size, actT, actA 8 cc kk r u b pv)] → S w' := fun h => (hSe _).2 ⟨h.cells.1, h.cells.2.1, h.cells.2.2.2.1, h.cells.2.2.2.2, by simpa using (h.aside (W.heap.size, actT, actA 8 cc kk r u b pv) (by simp)).1.cell 1, by simpa using (h.aside (W.heap.size, actT, actA 8 cc kk r u b pv) (by simp)).1.cell 2⟩
  go_enter Try.func68, Try.ntmps68
  go_wp2_with fail
  refine wp_region_held_drew (S := S) (by kernel_rfl) (hSP (H1.out.next (Keeps.refl [] _).drew)) (fun hHeld => ?_)
  refine wpAnyH_take (i := 0) (v := ?_) rfl (by kernel_rfl) (by kernel_rfl) (by kernel_rfl) (fun _ _ _ h => h) ?_ (by assumption) ?_
  rotate_left 1
  · first | (apply Or.inl; constructor; rfl; intro Wx hSw; obtain ⟨s1_, s2_, s3_, s4_, s5_, s6_⟩ := (hSe _).1 hSw; go_simp; try (with_reducible rfl)) | (apply Or.inr; constructor; rfl; rfl)
  try simp only [Act.put, List.getElem_toArray, List.getElem_cons_succ, List.getElem_cons_zero, List.setIfInBounds_toArray, List.set_cons_zero, List.set_cons_succ]
  refine wpAnyH_take (i := 1) (v := ?_) rfl (by kernel_rfl) (by kernel_rfl) (by kernel_rfl) (fun _ _ _ h => h) ?_ (by assumption) ?_
  rotate_left 1
  · first | (apply Or.inl; constructor; rfl; intro Wx hSw; obtain ⟨s1_, s2_, s3_, s4_, s5_, s6_⟩ := (hSe _).1 hSw; go_simp; try (with_reducible rfl)) | (apply Or.inr; constructor; rfl; rfl)
  try simp only [Act.put, List.getElem_toArray, List.getElem_cons_succ, List.getElem_cons_zero, List.setIfInBounds_toArray, List.set_cons_zero, List.set_cons_succ]
  refine wpAnyH_take (i := 2) (v := ?_) rfl (by kernel_rfl) (by kernel_rfl) (by kernel_rfl) (fun _ _ _ h => h) ?_ (by assumption) ?_
  rotate_left 1
  · first | (apply Or.inl; constructor; rfl; intro Wx hSw; obtain ⟨s1_, s2_, s3_, s4_, s5_, s6_⟩ := (hSe _).1 hSw; go_simp; try (with_reducible rfl)) | (apply Or.inr; constructor; rfl; rfl)
  try simp only [Act.put, List.getElem_toArray, List.getElem_cons_succ, List.getElem_cons_zero, List.setIfInBounds_toArray, List.set_cons_zero, List.set_cons_succ]
  refine wpAnyH_take (i := 3) (v := ?_) rfl (by kernel_rfl) (by kernel_rfl) (by kernel_rfl) (fun _ _ _ h => h) ?_ (by assumption) ?_
  rotate_left 1
  · first | (apply Or.inl; constructor; rfl; intro Wx hSw; obtain ⟨s1_, s2_, s3_, s4_, s5_, s6_⟩ := (hSe _).1 hSw; go_simp; try (with_reducible rfl)) | (apply Or.inr; constructor; rfl; rfl)
  try simp only [Act.put, List.getElem_toArray, List.getElem_cons_succ, List.getElem_cons_zero, List.setIfInBounds_toArray, List.set_cons_zero, List.set_cons_succ]
  refine wpAnyH_take (i := 4) (v := ?_) rfl (by kernel_rfl) (by kernel_rfl) (by kernel_rfl) (fun _ _ _ h => h) ?_ (by assumption) ?_
  rotate_left 1
  · first | (apply Or.inl; constructor; rfl; intro Wx hSw; obtain ⟨s1_, s2_, s3_, s4_, s5_, s6_⟩ := (hSe _).1 hSw; go_simp; try (with_reducible rfl)) | (apply Or.inr; constructor; rfl; rfl)
  try simp only [Act.put, List.getElem_toArray, List.getElem_cons_succ, List.getElem_cons_zero, List.setIfInBounds_toArray, List.set_cons_zero, List.set_cons_succ]
  refine wpAnyH_take (i := 5) (v := ?_) rfl (by kernel_rfl) (by kernel_rfl) (by kernel_rfl) (fun _ _ _ h => h) ?_ (by assumption) ?_
  rotate_left 1
  · first | (apply Or.inl; constructor; rfl; intro Wx hSw; obtain ⟨s1_, s2_, s3_, s4_, s5_, s6_⟩ := (hSe _).1 hSw; go_simp; try (with_reducible rfl)) | (apply Or.inr; constructor; rfl; rfl)
  try simp only [Act.put, List.getElem_toArray, List.getElem_cons_succ, List.getElem_cons_zero, List.setIfInBounds_toArray, List.set_cons_zero, List.set_cons_succ]
  refine wpAnyH_take (i := 6) (v := ?_) rfl (by kernel_rfl) (by kernel_rfl) (by kernel_rfl) (fun _ _ _ h => h) ?_ (by assumption) ?_
  rotate_left 1
  · first | (apply Or.inl; constructor; rfl; intro Wx hSw; obtain ⟨s1_, s2_, s3_, s4_, s5_, s6_⟩ := (hSe _).1 hSw; go_simp; try (with_reducible rfl)) | (apply Or.inr; constructor; rfl; rfl)
  try simp only [Act.put, List.getElem_toArray, List.getElem_cons_succ, List.getElem_cons_zero, List.setIfInBounds_toArray, List.set_cons_zero, List.set_cons_succ]
  refine wpAnyH_take (i := 7) (v := ?_) rfl (by kernel_rfl) (by kernel_rfl) (by kernel_rfl) (fun _ _ _ h => h) ?_ (by assumption) ?_
  rotate_left 1
  · first | (apply Or.inl; constructor; rfl; intro Wx hSw; obtain ⟨s1_, s2_, s3_, s4_, s5_, s6_⟩ := (hSe _).1 hSw; go_simp; try (with_reducible rfl)) | (apply Or.inr; constructor; rfl; rfl)
  try simp only [Act.put, List.getElem_toArray, List.getElem_cons_succ, List.getElem_cons_zero, List.setIfInBounds_toArray, List.set_cons_zero, List.set_cons_succ]
  refine wpAnyH_take (i := 8) (v := ?_) rfl (by kernel_rfl) (by kernel_rfl) (by kernel_rfl) (fun _ _ _ h => h) ?_ (by assumption) ?_
  rotate_left 1
  · first | (apply Or.inl; constructor; rfl; intro Wx hSw; obtain ⟨s1_, s2_, s3_, s4_, s5_, s6_⟩ := (hSe _).1 hSw; go_simp; try (with_reducible rfl)) | (apply Or.inr; constructor; rfl; rfl)
  try simp only [Act.put, List.getElem_toArray, List.getElem_cons_succ, List.getElem_cons_zero, List.setIfInBounds_toArray, List.set_cons_zero, List.set_cons_succ]
  refine wpAnyH_take (i := 9) (v := ?_) rfl (by kernel_rfl) (by kernel_rfl) (by kernel_rfl) (fun _ _ _ h => h) ?_ (by assumption) ?_
  rotate_left 1
  · first | (apply Or.inl; constructor; rfl; intro Wx hSw; obtain ⟨s1_, s2_, s3_, s4_, s5_, s6_⟩ := (hSe _).1 hSw; go_simp; try (with_reducible rfl)) | (apply Or.inr; constructor; rfl; rfl)
  try simp only [Act.put, List.getElem_toArray, List.getElem_cons_succ, List.getElem_cons_zero, List.setIfInBounds_toArray, List.set_cons_zero, List.set_cons_succ]
  refine wpAnyH_take (i := 10) (v := ?_) rfl (by kernel_rfl) (by kernel_rfl) (by kernel_rfl) (fun _ _ _ h => h) ?_ (by assumption) ?_
  rotate_left 1
  · first | (apply Or.inl; constructor; rfl; intro Wx hSw; obtain ⟨s1_, s2_, s3_, s4_, s5_, s6_⟩ := (hSe _).1 hSw; go_simp; try (with_reducible rfl)) | (apply Or.inr; constructor; rfl; rfl)
  try simp only [Act.put, List.getElem_toArray, List.getElem_cons_succ, List.getElem_cons_zero, List.setIfInBounds_toArray, List.set_cons_zero, List.set_cons_succ]
  refine wpAnyH_ready (rs := [11]) (by kernel_rfl) (by simp) ?_
  refine AllReadyH.cons rfl (fun K1 hK => ?_) AllReadyH.nil
  go_simp
  obtain ⟨Fn, f1, f2, f3⟩ := (H1.out.next (Keeps.refl [] _).drew).pnet
  refine (open_any n Fn N B cc kk _ f1 hN hB).mono ?_
  rintro e w2 ⟨rfl, hd⟩
  obtain ⟨F1, h2⟩ := f3 _ _ hd
  have H2 := hid h2
  refine hK.out _ _ (hSP h2) (fun hHeld => ?_)
  clear hK K1 f1 f2 f3 h2 hd
  refine wpAnyH_done (by kernel_rfl) ?_ _
  go_wp2_with fail
  refine wp_region_held_drew (S := S) (by kernel_rfl) (hSP (H2.out.next (Keeps.refl [] _).drew)) (fun hHeld => ?_)
  refine wpAnyH_take (i := 0) (v := ?_) rfl (by kernel_rfl) (by kernel_rfl) (by kernel_rfl) (fun _ _ _ h => h) ?_ (by assumption) ?_
  rotate_left 1
  · first | (apply Or.inl; constructor; rfl; intro Wx hSw; obtain ⟨s1_, s2_, s3_, s4_, s5_, s6_⟩ := (hSe _).1 hSw; go_simp; try (with_reducible rfl)) | (apply Or.inr; constructor; rfl; rfl)
  try simp only [Act.put, List.getElem_toArray, List.getElem_cons_succ, List.getElem_cons_zero, List.setIfInBounds_toArray, List.set_cons_zero, List.set_cons_succ]
  refine wpAnyH_take (i := 1) (v := ?_) rfl (by kernel_rfl) (by kernel_rfl) (by kernel_rfl) (fun _ _ _ h => h) ?_ (by assumption) ?_
  rotate_left 1
  · first | (apply Or.inl; constructor; rfl; intro Wx hSw; obtain ⟨s1_, s2_, s3_, s4_, s5_, s6_⟩ := (hSe _).1 hSw; go_simp; try (with_reducible rfl)) | (apply Or.inr; constructor; rfl; rfl)
  try simp only [Act.put, List.getElem_toArray, List.getElem_cons_succ, List.getElem_cons_zero, List.setIfInBounds_toArray, List.set_cons_zero, List.set_cons_succ]
  refine wpAnyH_take (i := 2) (v := ?_) rfl (by kernel_rfl) (by kernel_rfl) (by kernel_rfl) (fun _ _ _ h => h) ?_ (by assumption) ?_
  rotate_left 1
  · first | (apply Or.inl; constructor; rfl; intro Wx hSw; obtain ⟨s1_, s2_, s3_, s4_, s5_, s6_⟩ := (hSe _).1 hSw; go_simp; try (with_reducible rfl)) | (apply Or.inr; constructor; rfl; rfl)
  try simp only [Act.put, List.getElem_toArray, List.getElem_cons_succ, List.getElem_cons_zero, List.setIfInBounds_toArray, List.set_cons_zero, List.set_cons_succ]
  refine wpAnyH_take (i := 3) (v := ?_) rfl (by kernel_rfl) (by kernel_rfl) (by kernel_rfl) (fun _ _ _ h => h) ?_ (by assumption) ?_
  rotate_left 1
  · first | (apply Or.inl; constructor; rfl; intro Wx hSw; obtain ⟨s1_, s2_, s3_, s4_, s5_, s6_⟩ := (hSe _).1 hSw; go_simp; try (with_reducible rfl)) | (apply Or.inr; constructor; rfl; rfl)
  try simp only [Act.put, List.getElem_toArray, List.getElem_cons_succ, List.getElem_cons_zero, List.setIfInBounds_toArray, List.set_cons_zero, List.set_cons_succ]
  refine wpAnyH_take (i := 4) (v := ?_) rfl (by kernel_rfl) (by kernel_rfl) (by kernel_rfl) (fun _ _ _ h => h) ?_ (by assumption) ?_
  rotate_left 1
  · first | (apply Or.inl; constructor; rfl; intro Wx hSw; obtain ⟨s1_, s2_, s3_, s4_, s5_, s6_⟩ := (hSe _).1 hSw; go_simp; try (with_reducible rfl)) | (apply Or.inr; constructor; rfl; rfl)
  try simp only [Act.put, List.getElem_toArray, List.getElem_cons_succ, List.getElem_cons_zero, List.setIfInBounds_toArray, List.set_cons_zero, List.set_cons_succ]
  refine wpAnyH_take (i := 5) (v := ?_) rfl (by kernel_rfl) (by kernel_rfl) (by kernel_rfl) (fun _ _ _ h => h) ?_ (by assumption) ?_
  rotate_left 1
  · first | (apply Or.inl; constructor; rfl; intro Wx hSw; obtain ⟨s1_, s2_, s3_, s4_, s5_, s6_⟩ := (hSe _).1 hSw; go_simp; try (with_reducible rfl)) | (apply Or.inr; constructor; rfl; rfl)
  try simp only [Act.put, List.getElem_toArray, List.getElem_cons_succ, List.getElem_cons_zero, List.setIfInBounds_toArray, List.set_cons_zero, List.set_cons_succ]
  refine wpAnyH_take (i := 6) (v := ?_) rfl (by kernel_rfl) (by kernel_rfl) (by kernel_rfl) (fun _ _ _ h => h) ?_ (by assumption) ?_
  rotate_left 1
  · first | (apply Or.inl; constructor; rfl; intro Wx hSw; obtain ⟨s1_, s2_, s3_, s4_, s5_, s6_⟩ := (hSe _).1 hSw; go_simp; try (with_reducible rfl)) | (apply Or.inr; constructor; rfl; rfl)
  try simp only [Act.put, List.getElem_toArray, List.getElem_cons_succ, List.getElem_cons_zero, List.setIfInBounds_toArray, List.set_cons_zero, List.set_cons_succ]
  refine wpAnyH_take (i := 7) (v := ?_) rfl (by kernel_rfl) (by kernel_rfl) (by kernel_rfl) (fun _ _ _ h => h) ?_ (by assumption) ?_
  rotate_left 1
  · first | (apply Or.inl; constructor; rfl; intro Wx hSw; obtain ⟨s1_, s2_, s3_, s4_, s5_, s6_⟩ := (hSe _).1 hSw; go_simp; try (with_reducible rfl)) | (apply Or.inr; constructor; rfl; rfl)
  try simp only [Act.put, List.getElem_toArray, List.getElem_cons_succ, List.getElem_cons_zero, List.setIfInBounds_toArray, List.set_cons_zero, List.set_cons_succ]
  refine wpAnyH_take (i := 8) (v := ?_) rfl (by kernel_rfl) (by kernel_rfl) (by kernel_rfl) (fun _ _ _ h => h) ?_ (by assumption) ?_
  rotate_left 1
  · first | (apply Or.inl; constructor; rfl; intro Wx hSw; obtain ⟨s1_, s2_, s3_, s4_, s5_, s6_⟩ := (hSe _).1 hSw; go_simp; try (with_reducible rfl)) | (apply Or.inr; constructor; rfl; rfl)
  try simp only [Act.put, List.getElem_toArray, List.getElem_cons_succ, List.getElem_cons_zero, List.setIfInBounds_toArray, List.set_cons_zero, List.set_cons_succ]
  refine wpAnyH_take (i := 9) (v := ?_) rfl (by kernel_rfl) (by kernel_rfl) (by kernel_rfl) (fun _ _ _ h => h) ?_ (by assumption) ?_
  rotate_left 1
  · first | (apply Or.inl; constructor; rfl; intro Wx hSw; obtain ⟨s1_, s2_, s3_, s4_, s5_, s6_⟩ := (hSe _).1 hSw; go_simp; try (with_reducible rfl)) | (apply Or.inr; constructor; rfl; rfl)
  try simp only [Act.put, List.getElem_toArray, List.getElem_cons_succ, List.getElem_cons_zero, List.setIfInBounds_toArray, List.set_cons_zero, List.set_cons_succ]
  refine wpAnyH_take (i := 10) (v := ?_) rfl (by kernel_rfl) (by kernel_rfl) (by kernel_rfl) (fun _ _ _ h => h) ?_ (by assumption) ?_
  rotate_left 1
  · first | (apply Or.inl; constructor; rfl; intro Wx hSw; obtain ⟨s1_, s2_, s3_, s4_, s5_, s6_⟩ := (hSe _).1 hSw; go_simp; try (with_reducible rfl)) | (apply Or.inr; constructor; rfl; rfl)
  try simp only [Act.put, List.getElem_toArray, List.getElem_cons_succ, List.getElem_cons_zero, List.setIfInBounds_toArray, List.set_cons_zero, List.set_cons_succ]
  refine wpAnyH_ready (rs := [11]) (by kernel_rfl) (by simp) ?_
  refine AllReadyH.cons rfl (fun K1 hK => ?_) AllReadyH.nil
  go_simp
  obtain ⟨Fn, f1, f2, f3⟩ := (H2.out.next (Keeps.refl [] _).drew).rnet
  refine (ropen_any x Fn N B cc kk _ f1 hN hB).mono ?_
  rintro e w2 ⟨rfl, hd⟩
  obtain ⟨G1, h2⟩ := f3 _ _ hd
  have H3 := hid h2
  refine hK.out _ _ (hSP h2) (fun hHeld => ?_)
  clear hK K1 f1 f2 f3 h2 hd
  refine wpAnyH_done (by kernel_rfl) ?_ _
  go_wp2_with fail
  first | (refine bodyPost_end (results_none rfl _ _ _) rfl ?_) | skip
  exact ⟨rfl, F1, G1, H3.out.away (A' := []) (by simp)⟩
set_option maxRecDepth 100000 in
set_option maxHeartbeats 8000000 in
theorem wire_9 (w W : World) (pb n xb x q : Nat) (F G : List Nat) (N : NS) (L : List Slot) (ds : WL) (K : List Slot) (c : Int) (D : Nat → Wd) (gv : Value) (hs : List (Int × Int)) (B cc kk : Int) (r u b : Bool) (pv : Value) (h : PB w W pb n xb x q F G N L ds N K c D gv hs []) (hN : OkN N B) (hB : B ≤ 1099511627776) :
    Calls Try.prog 68 #[.pointer (some ⟨q, 0, none⟩), .agg (actA 9 cc kk r u b pv)] W fun e w' => e = .returned (.tuple #[]) ∧ ∃ F1 G1, PB w w' pb n xb x q F1 G1 (wireN 9 N cc kk) L ds (wireN 9 N cc kk) K c D gv hs [] := by
  have hw : wireN 9 N cc kk = (resetN N cc).1 := by simp [wireN]
  rw [hw]
  clear hw
  have hk1 := ((Keeps.refl [] W).alloc (.cells (actA 9 cc kk r u b pv) actT)).alloc (.cells #[.int .u8 7] 5)
  have h1 := (h.put (W.heap.size, actT, actA 9 cc kk r u b pv) ((Keeps.refl [] W).alloc (.cells (actA 9 cc kk r u b pv) actT)) (Blk.new W _ _) (Nat.le_refl _)).put (W.heap.size + 1, 5, #[.int .u8 7]) ((Keeps.refl [] _).alloc (.cells #[.int .u8 7] 5)) (Blk.newAt (by simp)) (by simp)
  have H1 := hid h1
  clear h h1 hk1
  obtain ⟨S, hSe⟩ : ∃ S : World → Prop, ∀ w', S w' ↔ (w'.cell? ⟨q, 0, none⟩ = some (.pointer (some ⟨pb, 0, none⟩)) ∧ w'.cell? ⟨q, 1, none⟩ = some (.pointer (some ⟨xb, 0, none⟩)) ∧ w'.cell? ⟨pb, 0, none⟩ = some (.pointer (some ⟨n, 0, none⟩)) ∧ w'.cell? ⟨xb, 0, none⟩ = some (.pointer (some ⟨x, 0, none⟩)) ∧ w'.cell? ⟨W.heap.size, 1, none⟩ = some (.int .i64 cc) ∧ w'.cell? ⟨W.heap.size, 2, none⟩ = some (.int .i64 kk)) := ⟨_, fun _ => Iff.rfl⟩
  have hSP : ∀ {w' : World} {F G : List Nat} {N1 M1 : NS}, PB w w' pb n xb x q F G N1 L ds M1 K c D gv hs [(W.heap.size + 1, 5, #[.int .u8 7]), (W.heap.size, actT, actA 9 cc kk r u b pv)] → S w' := fun h => (hSe _).2 ⟨h.cells.1, h.cells.2.1, h.cells.2.2.2.1, h.cells.2.2.2.2, by simpa using (h.aside (W.heap.size, actT, actA 9 cc kk r u b pv) (by simp)).1.cell 1, by simpa using (h.aside (W.heap.size, actT, actA 9 cc kk r u b pv) (by simp)).1.cell 2⟩
  go_enter Try.func68, Try.ntmps68
  go_wp2_with fail
  refine wp_region_held_drew (S := S) (by kernel_rfl) (hSP (H1.out.next (Keeps.refl [] _).drew)) (fun hHeld => ?_)
  refine wpAnyH_take (i := 0) (v := ?_) rfl (by kernel_rfl) (by kernel_rfl) (by kernel_rfl) (fun _ _ _ h => h) ?_ (by assumption) ?_
  rotate_left 1
  · first | (apply Or.inl; constructor; rfl; intro Wx hSw; obtain ⟨s1_, s2_, s3_, s4_, s5_, s6_⟩ := (hSe _).1 hSw; go_simp; try (with_reducible rfl)) | (apply Or.inr; constructor; rfl; rfl)
  try simp only [Act.put, List.getElem_toArray, List.getElem_cons_succ, List.getElem_cons_zero, List.setIfInBounds_toArray, List.set_cons_zero, List.set_cons_succ]
  refine wpAnyH_take (i := 1) (v := ?_) rfl (by kernel_rfl) (by kernel_rfl) (by kernel_rfl) (fun _ _ _ h => h) ?_ (by assumption) ?_
  rotate_left 1
  · first | (apply Or.inl; constructor; rfl; intro Wx hSw; obtain ⟨s1_, s2_, s3_, s4_, s5_, s6_⟩ := (hSe _).1 hSw; go_simp; try (with_reducible rfl)) | (apply Or.inr; constructor; rfl; rfl)
  try simp only [Act.put, List.getElem_toArray, List.getElem_cons_succ, List.getElem_cons_zero, List.setIfInBounds_toArray, List.set_cons_zero, List.set_cons_succ]
  refine wpAnyH_take (i := 2) (v := ?_) rfl (by kernel_rfl) (by kernel_rfl) (by kernel_rfl) (fun _ _ _ h => h) ?_ (by assumption) ?_
  rotate_left 1
  · first | (apply Or.inl; constructor; rfl; intro Wx hSw; obtain ⟨s1_, s2_, s3_, s4_, s5_, s6_⟩ := (hSe _).1 hSw; go_simp; try (with_reducible rfl)) | (apply Or.inr; constructor; rfl; rfl)
  try simp only [Act.put, List.getElem_toArray, List.getElem_cons_succ, List.getElem_cons_zero, List.setIfInBounds_toArray, List.set_cons_zero, List.set_cons_succ]
  refine wpAnyH_take (i := 3) (v := ?_) rfl (by kernel_rfl) (by kernel_rfl) (by kernel_rfl) (fun _ _ _ h => h) ?_ (by assumption) ?_
  rotate_left 1
  · first | (apply Or.inl; constructor; rfl; intro Wx hSw; obtain ⟨s1_, s2_, s3_, s4_, s5_, s6_⟩ := (hSe _).1 hSw; go_simp; try (with_reducible rfl)) | (apply Or.inr; constructor; rfl; rfl)
  try simp only [Act.put, List.getElem_toArray, List.getElem_cons_succ, List.getElem_cons_zero, List.setIfInBounds_toArray, List.set_cons_zero, List.set_cons_succ]
  refine wpAnyH_take (i := 4) (v := ?_) rfl (by kernel_rfl) (by kernel_rfl) (by kernel_rfl) (fun _ _ _ h => h) ?_ (by assumption) ?_
  rotate_left 1
  · first | (apply Or.inl; constructor; rfl; intro Wx hSw; obtain ⟨s1_, s2_, s3_, s4_, s5_, s6_⟩ := (hSe _).1 hSw; go_simp; try (with_reducible rfl)) | (apply Or.inr; constructor; rfl; rfl)
  try simp only [Act.put, List.getElem_toArray, List.getElem_cons_succ, List.getElem_cons_zero, List.setIfInBounds_toArray, List.set_cons_zero, List.set_cons_succ]
  refine wpAnyH_take (i := 5) (v := ?_) rfl (by kernel_rfl) (by kernel_rfl) (by kernel_rfl) (fun _ _ _ h => h) ?_ (by assumption) ?_
  rotate_left 1
  · first | (apply Or.inl; constructor; rfl; intro Wx hSw; obtain ⟨s1_, s2_, s3_, s4_, s5_, s6_⟩ := (hSe _).1 hSw; go_simp; try (with_reducible rfl)) | (apply Or.inr; constructor; rfl; rfl)
  try simp only [Act.put, List.getElem_toArray, List.getElem_cons_succ, List.getElem_cons_zero, List.setIfInBounds_toArray, List.set_cons_zero, List.set_cons_succ]
  refine wpAnyH_take (i := 6) (v := ?_) rfl (by kernel_rfl) (by kernel_rfl) (by kernel_rfl) (fun _ _ _ h => h) ?_ (by assumption) ?_
  rotate_left 1
  · first | (apply Or.inl; constructor; rfl; intro Wx hSw; obtain ⟨s1_, s2_, s3_, s4_, s5_, s6_⟩ := (hSe _).1 hSw; go_simp; try (with_reducible rfl)) | (apply Or.inr; constructor; rfl; rfl)
  try simp only [Act.put, List.getElem_toArray, List.getElem_cons_succ, List.getElem_cons_zero, List.setIfInBounds_toArray, List.set_cons_zero, List.set_cons_succ]
  refine wpAnyH_take (i := 7) (v := ?_) rfl (by kernel_rfl) (by kernel_rfl) (by kernel_rfl) (fun _ _ _ h => h) ?_ (by assumption) ?_
  rotate_left 1
  · first | (apply Or.inl; constructor; rfl; intro Wx hSw; obtain ⟨s1_, s2_, s3_, s4_, s5_, s6_⟩ := (hSe _).1 hSw; go_simp; try (with_reducible rfl)) | (apply Or.inr; constructor; rfl; rfl)
  try simp only [Act.put, List.getElem_toArray, List.getElem_cons_succ, List.getElem_cons_zero, List.setIfInBounds_toArray, List.set_cons_zero, List.set_cons_succ]
  refine wpAnyH_take (i := 8) (v := ?_) rfl (by kernel_rfl) (by kernel_rfl) (by kernel_rfl) (fun _ _ _ h => h) ?_ (by assumption) ?_
  rotate_left 1
  · first | (apply Or.inl; constructor; rfl; intro Wx hSw; obtain ⟨s1_, s2_, s3_, s4_, s5_, s6_⟩ := (hSe _).1 hSw; go_simp; try (with_reducible rfl)) | (apply Or.inr; constructor; rfl; rfl)
  try simp only [Act.put, List.getElem_toArray, List.getElem_cons_succ, List.getElem_cons_zero, List.setIfInBounds_toArray, List.set_cons_zero, List.set_cons_succ]
  refine wpAnyH_ready (rs := [9]) (by kernel_rfl) (by simp) ?_
  refine AllReadyH.cons rfl (fun K1 hK => ?_) AllReadyH.nil
  go_simp
  obtain ⟨Fn, f1, f2, f3⟩ := (H1.out.next (Keeps.refl [] _).drew).pnet
  refine (reset_any n Fn N B cc _ f1 hN hB).mono ?_
  rintro e w2 ⟨rfl, hd⟩
  obtain ⟨F1, h2⟩ := f3 _ _ hd
  have H2 := hid h2
  refine hK.out _ _ (hSP h2) (fun hHeld => ?_)
  clear hK K1 f1 f2 f3 h2 hd
  refine wpAnyH_done (by kernel_rfl) ?_ _
  go_wp2_with fail
  refine wp_region_held_drew (S := S) (by kernel_rfl) (hSP (H2.out.next (Keeps.refl [] _).drew)) (fun hHeld => ?_)
  refine wpAnyH_take (i := 0) (v := ?_) rfl (by kernel_rfl) (by kernel_rfl) (by kernel_rfl) (fun _ _ _ h => h) ?_ (by assumption) ?_
  rotate_left 1
  · first | (apply Or.inl; constructor; rfl; intro Wx hSw; obtain ⟨s1_, s2_, s3_, s4_, s5_, s6_⟩ := (hSe _).1 hSw; go_simp; try (with_reducible rfl)) | (apply Or.inr; constructor; rfl; rfl)
  try simp only [Act.put, List.getElem_toArray, List.getElem_cons_succ, List.getElem_cons_zero, List.setIfInBounds_toArray, List.set_cons_zero, List.set_cons_succ]
  refine wpAnyH_take (i := 1) (v := ?_) rfl (by kernel_rfl) (by kernel_rfl) (by kernel_rfl) (fun _ _ _ h => h) ?_ (by assumption) ?_
  rotate_left 1
  · first | (apply Or.inl; constructor; rfl; intro Wx hSw; obtain ⟨s1_, s2_, s3_, s4_, s5_, s6_⟩ := (hSe _).1 hSw; go_simp; try (with_reducible rfl)) | (apply Or.inr; constructor; rfl; rfl)
  try simp only [Act.put, List.getElem_toArray, List.getElem_cons_succ, List.getElem_cons_zero, List.setIfInBounds_toArray, List.set_cons_zero, List.set_cons_succ]
  refine wpAnyH_take (i := 2) (v := ?_) rfl (by kernel_rfl) (by kernel_rfl) (by kernel_rfl) (fun _ _ _ h => h) ?_ (by assumption) ?_
  rotate_left 1
  · first | (apply Or.inl; constructor; rfl; intro Wx hSw; obtain ⟨s1_, s2_, s3_, s4_, s5_, s6_⟩ := (hSe _).1 hSw; go_simp; try (with_reducible rfl)) | (apply Or.inr; constructor; rfl; rfl)
  try simp only [Act.put, List.getElem_toArray, List.getElem_cons_succ, List.getElem_cons_zero, List.setIfInBounds_toArray, List.set_cons_zero, List.set_cons_succ]
  refine wpAnyH_take (i := 3) (v := ?_) rfl (by kernel_rfl) (by kernel_rfl) (by kernel_rfl) (fun _ _ _ h => h) ?_ (by assumption) ?_
  rotate_left 1
  · first | (apply Or.inl; constructor; rfl; intro Wx hSw; obtain ⟨s1_, s2_, s3_, s4_, s5_, s6_⟩ := (hSe _).1 hSw; go_simp; try (with_reducible rfl)) | (apply Or.inr; constructor; rfl; rfl)
  try simp only [Act.put, List.getElem_toArray, List.getElem_cons_succ, List.getElem_cons_zero, List.setIfInBounds_toArray, List.set_cons_zero, List.set_cons_succ]
  refine wpAnyH_take (i := 4) (v := ?_) rfl (by kernel_rfl) (by kernel_rfl) (by kernel_rfl) (fun _ _ _ h => h) ?_ (by assumption) ?_
  rotate_left 1
  · first | (apply Or.inl; constructor; rfl; intro Wx hSw; obtain ⟨s1_, s2_, s3_, s4_, s5_, s6_⟩ := (hSe _).1 hSw; go_simp; try (with_reducible rfl)) | (apply Or.inr; constructor; rfl; rfl)
  try simp only [Act.put, List.getElem_toArray, List.getElem_cons_succ, List.getElem_cons_zero, List.setIfInBounds_toArray, List.set_cons_zero, List.set_cons_succ]
  refine wpAnyH_take (i := 5) (v := ?_) rfl (by kernel_rfl) (by kernel_rfl) (by kernel_rfl) (fun _ _ _ h => h) ?_ (by assumption) ?_
  rotate_left 1
  · first | (apply Or.inl; constructor; rfl; intro Wx hSw; obtain ⟨s1_, s2_, s3_, s4_, s5_, s6_⟩ := (hSe _).1 hSw; go_simp; try (with_reducible rfl)) | (apply Or.inr; constructor; rfl; rfl)
  try simp only [Act.put, List.getElem_toArray, List.getElem_cons_succ, List.getElem_cons_zero, List.setIfInBounds_toArray, List.set_cons_zero, List.set_cons_succ]
  refine wpAnyH_take (i := 6) (v := ?_) rfl (by kernel_rfl) (by kernel_rfl) (by kernel_rfl) (fun _ _ _ h => h) ?_ (by assumption) ?_
  rotate_left 1
  · first | (apply Or.inl; constructor; rfl; intro Wx hSw; obtain ⟨s1_, s2_, s3_, s4_, s5_, s6_⟩ := (hSe _).1 hSw; go_simp; try (with_reducible rfl)) | (apply Or.inr; constructor; rfl; rfl)
  try simp only [Act.put, List.getElem_toArray, List.getElem_cons_succ, List.getElem_cons_zero, List.setIfInBounds_toArray, List.set_cons_zero, List.set_cons_succ]
  refine wpAnyH_take (i := 7) (v := ?_) rfl (by kernel_rfl) (by kernel_rfl) (by kernel_rfl) (fun _ _ _ h => h) ?_ (by assumption) ?_
  rotate_left 1
  · first | (apply Or.inl; constructor; rfl; intro Wx hSw; obtain ⟨s1_, s2_, s3_, s4_, s5_, s6_⟩ := (hSe _).1 hSw; go_simp; try (with_reducible rfl)) | (apply Or.inr; constructor; rfl; rfl)
  try simp only [Act.put, List.getElem_toArray, List.getElem_cons_succ, List.getElem_cons_zero, List.setIfInBounds_toArray, List.set_cons_zero, List.set_cons_succ]
  refine wpAnyH_take (i := 8) (v := ?_) rfl (by kernel_rfl) (by kernel_rfl) (by kernel_rfl) (fun _ _ _ h => h) ?_ (by assumption) ?_
  rotate_left 1
  · first | (apply Or.inl; constructor; rfl; intro Wx hSw; obtain ⟨s1_, s2_, s3_, s4_, s5_, s6_⟩ := (hSe _).1 hSw; go_simp; try (with_reducible rfl)) | (apply Or.inr; constructor; rfl; rfl)
  try simp only [Act.put, List.getElem_toArray, List.getElem_cons_succ, List.getElem_cons_zero, List.setIfInBounds_toArray, List.set_cons_zero, List.set_cons_succ]
  refine wpAnyH_ready (rs := [9]) (by kernel_rfl) (by simp) ?_
  refine AllReadyH.cons rfl (fun K1 hK => ?_) AllReadyH.nil
  go_simp
  obtain ⟨Fn, f1, f2, f3⟩ := (H2.out.next (Keeps.refl [] _).drew).rnet
  refine (rreset_any x Fn N B cc _ f1 hN hB).mono ?_
  rintro e w2 ⟨rfl, hd⟩
  obtain ⟨G1, h2⟩ := f3 _ _ hd
  have H3 := hid h2
  refine hK.out _ _ (hSP h2) (fun hHeld => ?_)
  clear hK K1 f1 f2 f3 h2 hd
  refine wpAnyH_done (by kernel_rfl) ?_ _
  go_wp2_with fail
  first | (refine bodyPost_end (results_none rfl _ _ _) rfl ?_) | skip
  exact ⟨rfl, F1, G1, H3.out.away (A' := []) (by simp)⟩
end Go.Proofs.Ytkeffebcmajhmaa
