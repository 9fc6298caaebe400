/- PollPlays: asks, kind 3. -/
import Derived.Test.YtkeffebcmajhmaaPq31
import Derived.Test.YtkeffebcmajhmaaPq32
namespace Go.Proofs.Ytkeffebcmajhmaa
open Go.RowKit
set_option linter.unusedVariables false
set_option linter.unusedSimpArgs false
theorem hsIn_blk2 {W : World} {b : Nat} {t : TypeId} {i g : Int} {F : List Nat} (h : Blk W b t #[.int .i64 i, .int .i64 g, .int .i64 i, .int .i64 g]) (hb : b ∉ F) : HsIn W F (.slice (some ⟨b, 0, none⟩) 2 2) [(i, g), (i, g)] := by
  refine ⟨_, _, rfl, Nat.le_refl _, by unfold maxLen; simp, fun _ => ⟨_, _, rfl, hb, fun j u hu => ?_⟩⟩
  have h0 := h.cell 0
  have h1 := h.cell 1
  have h2 := h.cell 2
  have h3 := h.cell 3
  simp at h0 h1 h2 h3
  match j, hu with
  | 0, hu => simp at hu; subst hu; exact ⟨by simpa using h0, by simpa using h1⟩
  | 1, hu => simp at hu; subst hu; exact ⟨by simpa using h2, by simpa using h3⟩
  | j + 2, hu => simp at hu
set_option maxRecDepth 100000 in
set_option maxHeartbeats 16000000 in
theorem asks_3 (w W : World) (pb n xb x q : Nat) (F G : List Nat) (N : NS) (L : List Slot) (ds : WL) (D : Nat → Wd) (gv : Value) (hs : List (Int × Int)) (cc kk : Int) (r u b : Bool) (pv : Value) (h : PB w W pb n xb x q F G N L ds N L ds.length D gv hs []) (hlr : LR L ds D) (hh : 1 ≤ hs.length) (hdl : ds.length ≤ 4096) (hgz : ∀ d ∈ L, 0 ≤ d.1 ∧ d.1 ≤ 1099511627776) :
    Calls Try.prog 67 #[.pointer (some ⟨q, 0, none⟩), .agg (actA 3 cc kk r u b pv)] W fun e w' => e = .returned (.bool true) ∧ ∃ F1 G1 L' ds' D', LR L' ds' D' ∧ (∀ B : Int, (∀ d ∈ L, 0 ≤ d.1 ∧ d.1 ≤ B) → ∀ d ∈ L', 0 ≤ d.1 ∧ d.1 ≤ B) ∧ L'.length = L.length ∧ ds'.length ≤ ds.length ∧ PB w w' pb n xb x q F1 G1 N L' ds' N L' ds'.length D' gv hs [] := by
  have h1 := h.put (W.heap.size, actT, actA 3 cc kk r u b pv) ((Keeps.refl [] W).alloc (.cells (actA 3 cc kk r u b pv) actT)) (Blk.new W _ _) (Nat.le_refl _)
  have H1 := hid h1
  have HLR := hid hlr
  clear h h1 hlr
  obtain ⟨m, hm⟩ : ∃ m, hs.length = m := ⟨_, rfl⟩
  have hm1 : 1 ≤ m := by omega
  obtain ⟨q1, hq1, -⟩ := and_maskP kk 65535 (by omega)
  obtain ⟨r1, hr1⟩ : ∃ r, q1 % m = r := ⟨_, rfl⟩
  have hr1m : r1 < m := by rw [← hr1]; exact Nat.mod_lt _ (by omega)
  have hmod1 : (bits BinOp.and IntKind.i64 kk 65535).tmod (m : Int) = (r1 : Int) := by
    have h1 : bits BinOp.and IntKind.i64 kk 65535 = (q1 : Int) := hq1
    rw [h1, ← hr1]
    exact (Int.ofNat_tmod q1 m).symm
  obtain ⟨GA, gcap, hgv, -⟩ := H1.out.row.form
  subst hgv
  obtain ⟨gb, go, hga, -, hgc⟩ := (H1.out.row.hsIn (F := []) (by simp)).at_ (by omega)
  subst hga
  obtain ⟨⟨i1, g1⟩, hh1⟩ : ∃ h, hs[r1]? = some h := ⟨hs[r1]'(by omega), List.getElem?_eq_getElem (by omega)⟩
  obtain ⟨d0, d1⟩ := hgc r1 _ hh1
  simp only at d0 d1
  have hr1i : (r1 : Int) < m := by omega
  have hmi : (0 : Int) < m := by omega
  have hmz : ¬ m = 0 := by omega
  obtain ⟨e1, e2, e3, e4, e5⟩ := H1.out.cells
  rw [hm] at e3
  obtain ⟨W1, hW1⟩ : ∃ x, W.alloc (.cells (actA 3 cc kk r u b pv) actT) = x := ⟨_, rfl⟩
  obtain ⟨POST, hPOST⟩ : ∃ P, (fun (e : Ending) (w' : World) => e = .returned (.bool true) ∧ ∃ F1 G1 L' ds' D', LR L' ds' D' ∧ (∀ B : Int, (∀ d ∈ L, 0 ≤ d.1 ∧ d.1 ≤ B) → ∀ d ∈ L', 0 ≤ d.1 ∧ d.1 ≤ B) ∧ L'.length = L.length ∧ ds'.length ≤ ds.length ∧ PB w w' pb n xb x q F1 G1 N L' ds' N L' ds'.length D' (.slice (some ⟨gb, go, none⟩) hs.length gcap) hs []) = P := ⟨_, rfl⟩
  rw [hPOST]
  have HP := hid hPOST
  clear hPOST hgc hq1 hr1
  go_enter Try.func67, Try.ntmps67
  go_wp2_with fail
  rw [hW1] at H1 e1 e2 e3 e4 e5 d0 d1
  have x2 := (H1.out.aside (W.heap.size, actT, actA 3 cc kk r u b pv) (by simp)).1.cell 2
  simp at x2
  clear hW1
  obtain ⟨S, hSe⟩ : ∃ S : World → Prop, ∀ w', S w' ↔ (w'.cell? ⟨q, 2, none⟩ = some (.slice (some ⟨gb, go, none⟩) m gcap) ∧ w'.cell? ⟨W.heap.size, 2, none⟩ = some (.int .i64 kk) ∧ w'.cell? ⟨gb, go + r1 * 2, none⟩ = some (.int .i64 i1) ∧ w'.cell? ⟨gb, go + r1 * 2 + 1, none⟩ = some (.int .i64 g1)) := ⟨_, fun _ => Iff.rfl⟩
  have hSk : ∀ w', Keeps [] W1 w' → S w' := fun w' hk => (hSe _).2 ⟨cell_keep hk (by simp) e3, cell_keep hk (by simp) x2, cell_keep hk (by simp) d0, cell_keep hk (by simp) d1⟩
  refine wp_region_held_drew (S := S) (by kernel_rfl) (hSk _ (Keeps.refl [] W1).drew) (fun hHeld => ?_)
  refine wpAnyH_take (i := 0) (v := ?_) rfl (by kernel_rfl) (by kernel_rfl) (by kernel_rfl) (fun _ _ _ h => h) ?_ (by assumption) ?_
  rotate_left 1
  · first | (apply Or.inl; constructor; rfl; intro Wx hSw; obtain ⟨s1_, s2_, s3_, s4_⟩ := (hSe _).1 hSw; go_simp; try (with_reducible rfl)) | (apply Or.inr; constructor; rfl; rfl)
  try simp only [Act.put, List.getElem_toArray, List.getElem_cons_succ, List.getElem_cons_zero, List.setIfInBounds_toArray, List.set_cons_zero, List.set_cons_succ]
  refine wpAnyH_take (i := 1) (v := ?_) rfl (by kernel_rfl) (by kernel_rfl) (by kernel_rfl) (fun _ _ _ h => h) ?_ (by assumption) ?_
  rotate_left 1
  · first | (apply Or.inl; constructor; rfl; intro Wx hSw; obtain ⟨s1_, s2_, s3_, s4_⟩ := (hSe _).1 hSw; go_simp; try (with_reducible rfl)) | (apply Or.inr; constructor; rfl; rfl)
  try simp only [Act.put, List.getElem_toArray, List.getElem_cons_succ, List.getElem_cons_zero, List.setIfInBounds_toArray, List.set_cons_zero, List.set_cons_succ]
  refine wpAnyH_take (i := 2) (v := ?_) rfl (by kernel_rfl) (by kernel_rfl) (by kernel_rfl) (fun _ _ _ h => h) ?_ (by assumption) ?_
  rotate_left 1
  · first | (apply Or.inl; constructor; rfl; intro Wx hSw; obtain ⟨s1_, s2_, s3_, s4_⟩ := (hSe _).1 hSw; go_simp; try (with_reducible rfl)) | (apply Or.inr; constructor; rfl; rfl)
  try simp only [Act.put, List.getElem_toArray, List.getElem_cons_succ, List.getElem_cons_zero, List.setIfInBounds_toArray, List.set_cons_zero, List.set_cons_succ]
  refine wpAnyH_take (i := 3) (v := ?_) rfl (by kernel_rfl) (by kernel_rfl) (by kernel_rfl) (fun _ _ _ h => h) ?_ (by assumption) ?_
  rotate_left 1
  · first | (apply Or.inl; constructor; rfl; intro Wx hSw; obtain ⟨s1_, s2_, s3_, s4_⟩ := (hSe _).1 hSw; go_simp; try (with_reducible rfl)) | (apply Or.inr; constructor; rfl; rfl)
  try simp only [Act.put, List.getElem_toArray, List.getElem_cons_succ, List.getElem_cons_zero, List.setIfInBounds_toArray, List.set_cons_zero, List.set_cons_succ]
  refine wpAnyH_take (i := 4) (v := ?_) rfl (by kernel_rfl) (by kernel_rfl) (by kernel_rfl) (fun _ _ _ h => h) ?_ (by assumption) ?_
  rotate_left 1
  · first | (apply Or.inl; constructor; rfl; intro Wx hSw; obtain ⟨s1_, s2_, s3_, s4_⟩ := (hSe _).1 hSw; go_simp; try (with_reducible rfl)) | (apply Or.inr; constructor; rfl; rfl)
  try simp only [Act.put, List.getElem_toArray, List.getElem_cons_succ, List.getElem_cons_zero, List.setIfInBounds_toArray, List.set_cons_zero, List.set_cons_succ]
  refine wpAnyH_take (i := 5) (v := ?_) rfl (by kernel_rfl) (by kernel_rfl) (by kernel_rfl) (fun _ _ _ h => h) ?_ (by assumption) ?_
  rotate_left 1
  · first | (apply Or.inl; constructor; rfl; intro Wx hSw; obtain ⟨s1_, s2_, s3_, s4_⟩ := (hSe _).1 hSw; go_simp; try (with_reducible rfl)) | (apply Or.inr; constructor; rfl; rfl)
  try simp only [Act.put, List.getElem_toArray, List.getElem_cons_succ, List.getElem_cons_zero, List.setIfInBounds_toArray, List.set_cons_zero, List.set_cons_succ]
  refine wpAnyH_take (i := 6) (v := ?_) rfl (by kernel_rfl) (by kernel_rfl) (by kernel_rfl) (fun _ _ _ h => h) ?_ (by assumption) ?_
  rotate_left 1
  · first | (apply Or.inl; constructor; rfl; intro Wx hSw; obtain ⟨s1_, s2_, s3_, s4_⟩ := (hSe _).1 hSw; go_simp; try (with_reducible rfl)) | (apply Or.inr; constructor; rfl; rfl)
  try simp only [Act.put, List.getElem_toArray, List.getElem_cons_succ, List.getElem_cons_zero, List.setIfInBounds_toArray, List.set_cons_zero, List.set_cons_succ]
  refine wpAnyH_take (i := 7) (v := ?_) rfl (by kernel_rfl) (by kernel_rfl) (by kernel_rfl) (fun _ _ _ h => h) ?_ (by assumption) ?_
  rotate_left 1
  · first | (apply Or.inl; constructor; rfl; intro Wx hSw; obtain ⟨s1_, s2_, s3_, s4_⟩ := (hSe _).1 hSw; go_simp; try (with_reducible rfl)) | (apply Or.inr; constructor; rfl; rfl)
  try simp only [Act.put, List.getElem_toArray, List.getElem_cons_succ, List.getElem_cons_zero, List.setIfInBounds_toArray, List.set_cons_zero, List.set_cons_succ]
  refine wpAnyH_take (i := 8) (v := ?_) rfl (by kernel_rfl) (by kernel_rfl) (by kernel_rfl) (fun _ _ _ h => h) ?_ (by assumption) ?_
  rotate_left 1
  · first | (apply Or.inl; constructor; rfl; intro Wx hSw; obtain ⟨s1_, s2_, s3_, s4_⟩ := (hSe _).1 hSw; go_simp; try (with_reducible rfl)) | (apply Or.inr; constructor; rfl; rfl)
  try simp only [Act.put, List.getElem_toArray, List.getElem_cons_succ, List.getElem_cons_zero, List.setIfInBounds_toArray, List.set_cons_zero, List.set_cons_succ]
  refine wpAnyH_take (i := 9) (v := ?_) rfl (by kernel_rfl) (by kernel_rfl) (by kernel_rfl) (fun _ _ _ h => h) ?_ (by assumption) ?_
  rotate_left 1
  · first | (apply Or.inl; constructor; rfl; intro Wx hSw; obtain ⟨s1_, s2_, s3_, s4_⟩ := (hSe _).1 hSw; go_simp; try (with_reducible rfl)) | (apply Or.inr; constructor; rfl; rfl)
  try simp only [Act.put, List.getElem_toArray, List.getElem_cons_succ, List.getElem_cons_zero, List.setIfInBounds_toArray, List.set_cons_zero, List.set_cons_succ]
  refine wpAnyH_take (i := 10) (v := ?_) rfl (by kernel_rfl) (by kernel_rfl) (by kernel_rfl) (fun _ _ _ h => h) ?_ (by assumption) ?_
  rotate_left 1
  · first | (apply Or.inl; constructor; rfl; intro Wx hSw; obtain ⟨s1_, s2_, s3_, s4_⟩ := (hSe _).1 hSw; go_simp; try (with_reducible rfl)) | (apply Or.inr; constructor; rfl; rfl)
  try simp only [Act.put, List.getElem_toArray, List.getElem_cons_succ, List.getElem_cons_zero, List.setIfInBounds_toArray, List.set_cons_zero, List.set_cons_succ]
  refine wpAnyH_take (i := 11) (v := ?_) rfl (by kernel_rfl) (by kernel_rfl) (by kernel_rfl) (fun _ _ _ h => h) ?_ (by assumption) ?_
  rotate_left 1
  · first | (apply Or.inl; constructor; rfl; intro Wx hSw; obtain ⟨s1_, s2_, s3_, s4_⟩ := (hSe _).1 hSw; go_simp; try (with_reducible rfl)) | (apply Or.inr; constructor; rfl; rfl)
  try simp only [Act.put, List.getElem_toArray, List.getElem_cons_succ, List.getElem_cons_zero, List.setIfInBounds_toArray, List.set_cons_zero, List.set_cons_succ]
  refine wpAnyH_take (i := 12) (v := ?_) rfl (by kernel_rfl) (by kernel_rfl) (by kernel_rfl) (fun _ _ _ h => h) ?_ (by assumption) ?_
  rotate_left 1
  · first | (apply Or.inl; constructor; rfl; intro Wx hSw; obtain ⟨s1_, s2_, s3_, s4_⟩ := (hSe _).1 hSw; go_simp; try (with_reducible rfl)) | (apply Or.inr; constructor; rfl; rfl)
  try simp only [Act.put, List.getElem_toArray, List.getElem_cons_succ, List.getElem_cons_zero, List.setIfInBounds_toArray, List.set_cons_zero, List.set_cons_succ]
  refine wpAnyH_take (i := 13) (v := ?_) rfl (by kernel_rfl) (by kernel_rfl) (by kernel_rfl) (fun _ _ _ h => h) ?_ (by assumption) ?_
  rotate_left 1
  · first | (apply Or.inl; constructor; rfl; intro Wx hSw; obtain ⟨s1_, s2_, s3_, s4_⟩ := (hSe _).1 hSw; go_simp; try (with_reducible rfl)) | (apply Or.inr; constructor; rfl; rfl)
  try simp only [Act.put, List.getElem_toArray, List.getElem_cons_succ, List.getElem_cons_zero, List.setIfInBounds_toArray, List.set_cons_zero, List.set_cons_succ]
  refine wpAnyH_take (i := 14) (v := ?_) rfl (by kernel_rfl) (by kernel_rfl) (by kernel_rfl) (fun _ _ _ h => h) ?_ (by assumption) ?_
  rotate_left 1
  · first | (apply Or.inl; constructor; rfl; intro Wx hSw; obtain ⟨s1_, s2_, s3_, s4_⟩ := (hSe _).1 hSw; go_simp; try (with_reducible rfl)) | (apply Or.inr; constructor; rfl; rfl)
  try simp only [Act.put, List.getElem_toArray, List.getElem_cons_succ, List.getElem_cons_zero, List.setIfInBounds_toArray, List.set_cons_zero, List.set_cons_succ]
  refine wpAnyH_ready (rs := [15]) (by kernel_rfl) (by simp) ?_
  refine AllReadyH.cons rfl (fun K1 hK => ?_) AllReadyH.nil
  go_simp
  refine hK.out _ _ (hSk _ ((Keeps.refl [] W1).drew.alloc _)) (fun hHeld => ?_)
  clear hK K1
  try simp only [Act.put, List.getElem_toArray, List.getElem_cons_succ, List.getElem_cons_zero, List.setIfInBounds_toArray, List.set_cons_zero, List.set_cons_succ]
  refine wpAnyH_ready (rs := [16]) (by kernel_rfl) (by simp) ?_
  refine AllReadyH.cons rfl (fun K1 hK => ?_) AllReadyH.nil
  go_simp
  have hk2 : Keeps [] W1 (W1.alloc (.cells #[.int .i64 i1, .int .i64 g1] 30)).drew := ((Keeps.refl [] W1).alloc _).drew
  refine hK.out _ _ (hSk _ hk2) (fun hHeld => ?_)
  clear hK K1
  refine wpAnyH_done (by kernel_rfl) ?_ _
  have hb5 : Blk (W1.alloc (.cells #[.int .i64 i1, .int .i64 g1] 30)).drew W1.heap.size 30 #[.int .i64 i1, .int .i64 g1] := Blk.drew (Blk.new W1 _ _)
  have h2 := H1.out.put (W1.heap.size, 30, #[.int .i64 i1, .int .i64 g1]) hk2 hb5 (Nat.le_refl _)
  have H2 := hid h2
  obtain ⟨a5, ha5⟩ : ∃ a, W1.heap.size = a := ⟨_, rfl⟩
  rw [ha5] at H2 ⊢
  obtain ⟨W2, hW2⟩ : ∃ x, (W1.alloc (.cells #[.int .i64 i1, .int .i64 g1] 30)).drew = x := ⟨_, rfl⟩
  rw [hW2] at H2 ⊢
  clear h2 hb5 hk2 hW2 hSk hSe hHeld ha5 e1 e2 e3 e4 e5 d0 d1 x2 H1 hmod1 hr1i hmi hmz
  have e1 := H2.out.cells.1
  have e2 := H2.out.cells.2.1
  have x0 := (H2.out.aside (W.heap.size, actT, actA 3 cc kk r u b pv) (by simp)).1.cell 0
  have x3 := (H2.out.aside (W.heap.size, actT, actA 3 cc kk r u b pv) (by simp)).1.cell 3
  have x4 := (H2.out.aside (W.heap.size, actT, actA 3 cc kk r u b pv) (by simp)).1.cell 4
  have y0 := (H2.out.aside (a5, 30, #[.int .i64 i1, .int .i64 g1]) (by simp)).1.cell 0
  have y1 := (H2.out.aside (a5, 30, #[.int .i64 i1, .int .i64 g1]) (by simp)).1.cell 1
  simp at x0 x3 x4 y0 y1
  go_wp2_with fail
  have HGZ := hid hgz
  clear hgz
  obtain ⟨S2, hSe⟩ : ∃ S : World → Prop, ∀ w', S w' ↔ (w'.cell? ⟨q, 0, none⟩ = some (.pointer (some ⟨pb, 0, none⟩)) ∧ w'.cell? ⟨q, 1, none⟩ = some (.pointer (some ⟨xb, 0, none⟩)) ∧ w'.cell? ⟨a5, 0, none⟩ = some (.int .i64 i1) ∧ w'.cell? ⟨a5, 1, none⟩ = some (.int .i64 g1)) := ⟨_, fun _ => Iff.rfl⟩
  have hSP : ∀ {w' : World} {F G : List Nat} {L1 L2 : List Slot} {ds1 : WL} {c1 : Int} {D1 : Nat → Wd} {A : AL}, PB w w' pb n xb x q F G N L1 ds1 N L2 c1 D1 (.slice (some ⟨gb, go, none⟩) hs.length gcap) hs A → (a5, 30, #[.int .i64 i1, .int .i64 g1]) ∈ A → S2 w' := fun h hA => (hSe _).2 ⟨h.cells.1, h.cells.2.1, by simpa using (h.aside _ hA).1.cell 0, by simpa using (h.aside _ hA).1.cell 1⟩
  refine wp_region_held_drew (S := S2) (by kernel_rfl) (hSP (H2.out.next (Keeps.refl [] W2).drew) (by simp)) (fun hHeld => ?_)
  refine wpAnyH_take (i := 0) (v := ?_) rfl (by kernel_rfl) (by kernel_rfl) (by kernel_rfl) (fun _ _ _ h => h) ?_ (by assumption) ?_
  rotate_left 1
  · first | (apply Or.inl; constructor; rfl; intro Wx hSw; obtain ⟨s1_, s2_, s3_, s4_⟩ := (hSe _).1 hSw; go_simp; try (with_reducible rfl)) | (apply Or.inr; constructor; rfl; rfl)
  try simp only [Act.put, List.getElem_toArray, List.getElem_cons_succ, List.getElem_cons_zero, List.setIfInBounds_toArray, List.set_cons_zero, List.set_cons_succ]
  refine wpAnyH_take (i := 1) (v := ?_) rfl (by kernel_rfl) (by kernel_rfl) (by kernel_rfl) (fun _ _ _ h => h) ?_ (by assumption) ?_
  rotate_left 1
  · first | (apply Or.inl; constructor; rfl; intro Wx hSw; obtain ⟨s1_, s2_, s3_, s4_⟩ := (hSe _).1 hSw; go_simp; try (with_reducible rfl)) | (apply Or.inr; constructor; rfl; rfl)
  try simp only [Act.put, List.getElem_toArray, List.getElem_cons_succ, List.getElem_cons_zero, List.setIfInBounds_toArray, List.set_cons_zero, List.set_cons_succ]
  refine wpAnyH_take (i := 2) (v := ?_) rfl (by kernel_rfl) (by kernel_rfl) (by kernel_rfl) (fun _ _ _ h => h) ?_ (by assumption) ?_
  rotate_left 1
  · first | (apply Or.inl; constructor; rfl; intro Wx hSw; obtain ⟨s1_, s2_, s3_, s4_⟩ := (hSe _).1 hSw; go_simp; try (with_reducible rfl)) | (apply Or.inr; constructor; rfl; rfl)
  try simp only [Act.put, List.getElem_toArray, List.getElem_cons_succ, List.getElem_cons_zero, List.setIfInBounds_toArray, List.set_cons_zero, List.set_cons_succ]
  refine wpAnyH_take (i := 3) (v := ?_) rfl (by kernel_rfl) (by kernel_rfl) (by kernel_rfl) (fun _ _ _ h => h) ?_ (by assumption) ?_
  rotate_left 1
  · first | (apply Or.inl; constructor; rfl; intro Wx hSw; obtain ⟨s1_, s2_, s3_, s4_⟩ := (hSe _).1 hSw; go_simp; try (with_reducible rfl)) | (apply Or.inr; constructor; rfl; rfl)
  try simp only [Act.put, List.getElem_toArray, List.getElem_cons_succ, List.getElem_cons_zero, List.setIfInBounds_toArray, List.set_cons_zero, List.set_cons_succ]
  refine wpAnyH_take (i := 4) (v := ?_) rfl (by kernel_rfl) (by kernel_rfl) (by kernel_rfl) (fun _ _ _ h => h) ?_ (by assumption) ?_
  rotate_left 1
  · first | (apply Or.inl; constructor; rfl; intro Wx hSw; obtain ⟨s1_, s2_, s3_, s4_⟩ := (hSe _).1 hSw; go_simp; try (with_reducible rfl)) | (apply Or.inr; constructor; rfl; rfl)
  try simp only [Act.put, List.getElem_toArray, List.getElem_cons_succ, List.getElem_cons_zero, List.setIfInBounds_toArray, List.set_cons_zero, List.set_cons_succ]
  refine wpAnyH_take (i := 5) (v := ?_) rfl (by kernel_rfl) (by kernel_rfl) (by kernel_rfl) (fun _ _ _ h => h) ?_ (by assumption) ?_
  rotate_left 1
  · first | (apply Or.inl; constructor; rfl; intro Wx hSw; obtain ⟨s1_, s2_, s3_, s4_⟩ := (hSe _).1 hSw; go_simp; try (with_reducible rfl)) | (apply Or.inr; constructor; rfl; rfl)
  try simp only [Act.put, List.getElem_toArray, List.getElem_cons_succ, List.getElem_cons_zero, List.setIfInBounds_toArray, List.set_cons_zero, List.set_cons_succ]
  refine wpAnyH_take (i := 8) (v := ?_) rfl (by kernel_rfl) (by kernel_rfl) (by kernel_rfl) (fun _ _ _ h => h) ?_ (by assumption) ?_
  rotate_left 1
  · first | (apply Or.inl; constructor; rfl; intro Wx hSw; obtain ⟨s1_, s2_, s3_, s4_⟩ := (hSe _).1 hSw; go_simp; try (with_reducible rfl)) | (apply Or.inr; constructor; rfl; rfl)
  try simp only [Act.put, List.getElem_toArray, List.getElem_cons_succ, List.getElem_cons_zero, List.setIfInBounds_toArray, List.set_cons_zero, List.set_cons_succ]
  refine wpAnyH_take (i := 9) (v := ?_) rfl (by kernel_rfl) (by kernel_rfl) (by kernel_rfl) (fun _ _ _ h => h) ?_ (by assumption) ?_
  rotate_left 1
  · first | (apply Or.inl; constructor; rfl; intro Wx hSw; obtain ⟨s1_, s2_, s3_, s4_⟩ := (hSe _).1 hSw; go_simp; try (with_reducible rfl)) | (apply Or.inr; constructor; rfl; rfl)
  try simp only [Act.put, List.getElem_toArray, List.getElem_cons_succ, List.getElem_cons_zero, List.setIfInBounds_toArray, List.set_cons_zero, List.set_cons_succ]
  refine wpAnyH_take (i := 10) (v := ?_) rfl (by kernel_rfl) (by kernel_rfl) (by kernel_rfl) (fun _ _ _ h => h) ?_ (by assumption) ?_
  rotate_left 1
  · first | (apply Or.inl; constructor; rfl; intro Wx hSw; obtain ⟨s1_, s2_, s3_, s4_⟩ := (hSe _).1 hSw; go_simp; try (with_reducible rfl)) | (apply Or.inr; constructor; rfl; rfl)
  try simp only [Act.put, List.getElem_toArray, List.getElem_cons_succ, List.getElem_cons_zero, List.setIfInBounds_toArray, List.set_cons_zero, List.set_cons_succ]
  refine wpAnyH_take (i := 11) (v := ?_) rfl (by kernel_rfl) (by kernel_rfl) (by kernel_rfl) (fun _ _ _ h => h) ?_ (by assumption) ?_
  rotate_left 1
  · first | (apply Or.inl; constructor; rfl; intro Wx hSw; obtain ⟨s1_, s2_, s3_, s4_⟩ := (hSe _).1 hSw; go_simp; try (with_reducible rfl)) | (apply Or.inr; constructor; rfl; rfl)
  try simp only [Act.put, List.getElem_toArray, List.getElem_cons_succ, List.getElem_cons_zero, List.setIfInBounds_toArray, List.set_cons_zero, List.set_cons_succ]
  refine wpAnyH_take (i := 12) (v := ?_) rfl (by kernel_rfl) (by kernel_rfl) (by kernel_rfl) (fun _ _ _ h => h) ?_ (by assumption) ?_
  rotate_left 1
  · first | (apply Or.inl; constructor; rfl; intro Wx hSw; obtain ⟨s1_, s2_, s3_, s4_⟩ := (hSe _).1 hSw; go_simp; try (with_reducible rfl)) | (apply Or.inr; constructor; rfl; rfl)
  try simp only [Act.put, List.getElem_toArray, List.getElem_cons_succ, List.getElem_cons_zero, List.setIfInBounds_toArray, List.set_cons_zero, List.set_cons_succ]
  refine wpAnyH_take (i := 13) (v := ?_) rfl (by kernel_rfl) (by kernel_rfl) (by kernel_rfl) (fun _ _ _ h => h) ?_ (by assumption) ?_
  rotate_left 1
  · first | (apply Or.inl; constructor; rfl; intro Wx hSw; obtain ⟨s1_, s2_, s3_, s4_⟩ := (hSe _).1 hSw; go_simp; try (with_reducible rfl)) | (apply Or.inr; constructor; rfl; rfl)
  try simp only [Act.put, List.getElem_toArray, List.getElem_cons_succ, List.getElem_cons_zero, List.setIfInBounds_toArray, List.set_cons_zero, List.set_cons_succ]
  try simp only [Act.put, List.getElem_toArray, List.getElem_cons_succ, List.getElem_cons_zero, List.setIfInBounds_toArray, List.set_cons_zero, List.set_cons_succ]
  refine wpAnyH_ready (rs := [6, 14]) (by kernel_rfl) (by simp) ?_
  refine AllReadyH.cons rfl (fun K1 hK => ?_) (AllReadyH.cons rfl (fun K1 hK => ?_) AllReadyH.nil)
  · go_simp
    have HA := hid (H2.out.put (W2.heap.size, 30, #[.int .i64 i1, .int .i64 g1, .int .i64 i1, .int .i64 g1]) ((Keeps.refl [] W2).drew.alloc _) (Blk.new W2.drew _ _) (Nat.le_refl _))
    refine hK.out _ _ (hSP HA.out (by simp)) (fun hHeld => ?_)
    clear hK K1
    try simp only [Act.put, List.getElem_toArray, List.getElem_cons_succ, List.getElem_cons_zero, List.setIfInBounds_toArray, List.set_cons_zero, List.set_cons_succ]
    refine wpAnyH_ready (rs := [7, 14]) (by kernel_rfl) (by simp) ?_
    refine AllReadyH.cons rfl (fun K1 hK => ?_) (AllReadyH.cons rfl (fun K1 hK => ?_) AllReadyH.nil)
    · go_simp
      refine (drop_any pb n F N L ds _ [(i1, g1), (i1, g1)] _ HA.out.prog (hsIn_blk2 (HA.out.aside (W2.heap.size, 30, #[.int .i64 i1, .int .i64 g1, .int .i64 i1, .int .i64 g1]) (by simp)).1 (HA.out.aside (W2.heap.size, 30, #[.int .i64 i1, .int .i64 g1, .int .i64 i1, .int .i64 g1]) (by simp)).2.1) (by simp) (by omega)).mono ?_
      rintro e w3 ⟨rfl, ⟨F3, hr3, hl3⟩, hk3⟩
      have HB := hid (HA.out.pstep hr3 (fun k hk => .inl (hl3 k hk)) hk3)
      refine hK.out _ _ (hSP HB.out (by simp)) (fun hHeld => ?_)
      clear hK K1 hr3 hl3 hk3
      try simp only [Act.put, List.getElem_toArray, List.getElem_cons_succ, List.getElem_cons_zero, List.setIfInBounds_toArray, List.set_cons_zero, List.set_cons_succ]
      refine wpAnyH_ready (rs := [14]) (by kernel_rfl) (by simp) ?_
      refine AllReadyH.cons rfl (fun K1 hK => ?_) AllReadyH.nil
      go_simp
      have HC := hid (HB.out.put (w3.heap.size, 30, #[.int .i64 i1, .int .i64 g1, .int .i64 i1, .int .i64 g1]) ((Keeps.refl [] _).alloc _) (Blk.newAt (by simp)) (by simp))
      refine hK.out _ _ (hSP HC.out (by simp)) (fun hHeld => ?_)
      clear hK K1
      try simp only [Act.put, List.getElem_toArray, List.getElem_cons_succ, List.getElem_cons_zero, List.setIfInBounds_toArray, List.set_cons_zero, List.set_cons_succ]
      refine wpAnyH_ready (rs := [15]) (by kernel_rfl) (by simp) ?_
      refine AllReadyH.cons rfl (fun K1 hK => ?_) AllReadyH.nil
      go_simp
      refine (rdrop_any xb x G N L ds.length D _ [(i1, g1), (i1, g1)] _ HC.out.ref (hsIn_blk2 (HC.out.aside (w3.heap.size, 30, #[.int .i64 i1, .int .i64 g1, .int .i64 i1, .int .i64 g1]) (by simp)).1 (HC.out.aside (w3.heap.size, 30, #[.int .i64 i1, .int .i64 g1, .int .i64 i1, .int .i64 g1]) (by simp)).2.2) (by simp) (by omega) (by omega) (lr_drop HLR.out [(i1, g1), (i1, g1)]).2.2).mono ?_
      rintro e w4 ⟨rfl, hr4, hk4⟩
      have HD := hid (HC.out.rstep hr4 (fun k hk => .inl hk) hk4)
      refine hK.out _ _ (hSP HD.out (by simp)) (fun hHeld => ?_)
      clear hK K1 hr4 hk4
      refine wpAnyH_take (i := 16) (v := ?_) rfl (by kernel_rfl) (by kernel_rfl) (by kernel_rfl) (fun _ _ _ h => h) ?_ (by assumption) ?_
      rotate_left 1
      · first | (apply Or.inl; constructor; rfl; intro Wx hSw; obtain ⟨s1_, s2_, s3_, s4_⟩ := (hSe _).1 hSw; go_simp; try (with_reducible rfl)) | (apply Or.inr; constructor; rfl; rfl)
      try simp only [Act.put, List.getElem_toArray, List.getElem_cons_succ, List.getElem_cons_zero, List.setIfInBounds_toArray, List.set_cons_zero, List.set_cons_succ]
      refine wpAnyH_take (i := 17) (v := ?_) rfl (by kernel_rfl) (by kernel_rfl) (by kernel_rfl) (fun _ _ _ h => h) ?_ (by assumption) ?_
      rotate_left 1
      · first | (apply Or.inl; constructor; rfl; intro Wx hSw; obtain ⟨s1_, s2_, s3_, s4_⟩ := (hSe _).1 hSw; go_simp; try (with_reducible rfl)) | (apply Or.inr; constructor; rfl; rfl)
      try simp only [Act.put, List.getElem_toArray, List.getElem_cons_succ, List.getElem_cons_zero, List.setIfInBounds_toArray, List.set_cons_zero, List.set_cons_succ]
      refine wpAnyH_done (by kernel_rfl) ?_ _
      go_wp2_with fail
      rw [← HP.out]
      have hc := (lr_drop HLR.out [(i1, g1), (i1, g1)]).2.1
      have h4 := HD.out
      have hc2 : ((ds.length : Nat) : Int) - (((takeAll L [(i1, g1), (i1, g1)]).2 : Nat) : Int) = (((outW ds [(i1, g1), (i1, g1)]).length : Nat) : Int) := by omega
      rw [hc2] at h4
      exact ⟨rfl, _, _, _, _, _, (lr_drop HLR.out [(i1, g1), (i1, g1)]).1, fun B hB => (gens_take [(i1, g1), (i1, g1)] (L, 0) hB).1, (gens_take [(i1, g1), (i1, g1)] (L, 0) HGZ.out).2, by omega, h4.away (A' := []) (by simp)⟩
    · go_simp
      have HB := hid (HA.out.put (W2.heap.size + 1, 30, #[.int .i64 i1, .int .i64 g1, .int .i64 i1, .int .i64 g1]) ((Keeps.refl [] _).alloc _) (Blk.newAt (by simp)) (by simp))
      refine hK.out _ _ (hSP HB.out (by simp)) (fun hHeld => ?_)
      clear hK K1
      try simp only [Act.put, List.getElem_toArray, List.getElem_cons_succ, List.getElem_cons_zero, List.setIfInBounds_toArray, List.set_cons_zero, List.set_cons_succ]
      refine wpAnyH_ready (rs := [7]) (by kernel_rfl) (by simp) ?_
      refine AllReadyH.cons rfl (fun K1 hK => ?_) AllReadyH.nil
      go_simp
      refine (drop_any pb n F N L ds _ [(i1, g1), (i1, g1)] _ HB.out.prog (hsIn_blk2 (HB.out.aside (W2.heap.size, 30, #[.int .i64 i1, .int .i64 g1, .int .i64 i1, .int .i64 g1]) (by simp)).1 (HB.out.aside (W2.heap.size, 30, #[.int .i64 i1, .int .i64 g1, .int .i64 i1, .int .i64 g1]) (by simp)).2.1) (by simp) (by omega)).mono ?_
      rintro e w3 ⟨rfl, ⟨F3, hr3, hl3⟩, hk3⟩
      have HC := hid (HB.out.pstep hr3 (fun k hk => .inl (hl3 k hk)) hk3)
      refine hK.out _ _ (hSP HC.out (by simp)) (fun hHeld => ?_)
      clear hK K1 hr3 hl3 hk3
      try simp only [Act.put, List.getElem_toArray, List.getElem_cons_succ, List.getElem_cons_zero, List.setIfInBounds_toArray, List.set_cons_zero, List.set_cons_succ]
      refine wpAnyH_ready (rs := [15]) (by kernel_rfl) (by simp) ?_
      refine AllReadyH.cons rfl (fun K1 hK => ?_) AllReadyH.nil
      go_simp
      refine (rdrop_any xb x G N L ds.length D _ [(i1, g1), (i1, g1)] _ HC.out.ref (hsIn_blk2 (HC.out.aside (W2.heap.size + 1, 30, #[.int .i64 i1, .int .i64 g1, .int .i64 i1, .int .i64 g1]) (by simp)).1 (HC.out.aside (W2.heap.size + 1, 30, #[.int .i64 i1, .int .i64 g1, .int .i64 i1, .int .i64 g1]) (by simp)).2.2) (by simp) (by omega) (by omega) (lr_drop HLR.out [(i1, g1), (i1, g1)]).2.2).mono ?_
      rintro e w4 ⟨rfl, hr4, hk4⟩
      have HD := hid (HC.out.rstep hr4 (fun k hk => .inl hk) hk4)
      refine hK.out _ _ (hSP HD.out (by simp)) (fun hHeld => ?_)
      clear hK K1 hr4 hk4
      refine wpAnyH_take (i := 16) (v := ?_) rfl (by kernel_rfl) (by kernel_rfl) (by kernel_rfl) (fun _ _ _ h => h) ?_ (by assumption) ?_
      rotate_left 1
      · first | (apply Or.inl; constructor; rfl; intro Wx hSw; obtain ⟨s1_, s2_, s3_, s4_⟩ := (hSe _).1 hSw; go_simp; try (with_reducible rfl)) | (apply Or.inr; constructor; rfl; rfl)
      try simp only [Act.put, List.getElem_toArray, List.getElem_cons_succ, List.getElem_cons_zero, List.setIfInBounds_toArray, List.set_cons_zero, List.set_cons_succ]
      refine wpAnyH_take (i := 17) (v := ?_) rfl (by kernel_rfl) (by kernel_rfl) (by kernel_rfl) (fun _ _ _ h => h) ?_ (by assumption) ?_
      rotate_left 1
      · first | (apply Or.inl; constructor; rfl; intro Wx hSw; obtain ⟨s1_, s2_, s3_, s4_⟩ := (hSe _).1 hSw; go_simp; try (with_reducible rfl)) | (apply Or.inr; constructor; rfl; rfl)
      try simp only [Act.put, List.getElem_toArray, List.getElem_cons_succ, List.getElem_cons_zero, List.setIfInBounds_toArray, List.set_cons_zero, List.set_cons_succ]
      refine wpAnyH_done (by kernel_rfl) ?_ _
      go_wp2_with fail
      rw [← HP.out]
      have hc := (lr_drop HLR.out [(i1, g1), (i1, g1)]).2.1
      have h4 := HD.out
      have hc2 : ((ds.length : Nat) : Int) - (((takeAll L [(i1, g1), (i1, g1)]).2 : Nat) : Int) = (((outW ds [(i1, g1), (i1, g1)]).length : Nat) : Int) := by omega
      rw [hc2] at h4
      exact ⟨rfl, _, _, _, _, _, (lr_drop HLR.out [(i1, g1), (i1, g1)]).1, fun B hB => (gens_take [(i1, g1), (i1, g1)] (L, 0) hB).1, (gens_take [(i1, g1), (i1, g1)] (L, 0) HGZ.out).2, by omega, h4.away (A' := []) (by simp)⟩
  · go_simp
    have HA := hid (H2.out.put (W2.heap.size, 30, #[.int .i64 i1, .int .i64 g1, .int .i64 i1, .int .i64 g1]) ((Keeps.refl [] W2).drew.alloc _) (Blk.new W2.drew _ _) (Nat.le_refl _))
    refine hK.out _ _ (hSP HA.out (by simp)) (fun hHeld => ?_)
    clear hK K1
    try simp only [Act.put, List.getElem_toArray, List.getElem_cons_succ, List.getElem_cons_zero, List.setIfInBounds_toArray, List.set_cons_zero, List.set_cons_succ]
    refine wpAnyH_ready (rs := [6]) (by kernel_rfl) (by simp) ?_
    refine AllReadyH.cons rfl (fun K1 hK => ?_) AllReadyH.nil
    go_simp
    have HB := hid (HA.out.put (W2.heap.size + 1, 30, #[.int .i64 i1, .int .i64 g1, .int .i64 i1, .int .i64 g1]) ((Keeps.refl [] _).alloc _) (Blk.newAt (by simp)) (by simp))
    refine hK.out _ _ (hSP HB.out (by simp)) (fun hHeld => ?_)
    clear hK K1
    try simp only [Act.put, List.getElem_toArray, List.getElem_cons_succ, List.getElem_cons_zero, List.setIfInBounds_toArray, List.set_cons_zero, List.set_cons_succ]
    refine wpAnyH_ready (rs := [7]) (by kernel_rfl) (by simp) ?_
    refine AllReadyH.cons rfl (fun K1 hK => ?_) AllReadyH.nil
    go_simp
    refine (drop_any pb n F N L ds _ [(i1, g1), (i1, g1)] _ HB.out.prog (hsIn_blk2 (HB.out.aside (W2.heap.size + 1, 30, #[.int .i64 i1, .int .i64 g1, .int .i64 i1, .int .i64 g1]) (by simp)).1 (HB.out.aside (W2.heap.size + 1, 30, #[.int .i64 i1, .int .i64 g1, .int .i64 i1, .int .i64 g1]) (by simp)).2.1) (by simp) (by omega)).mono ?_
    rintro e w3 ⟨rfl, ⟨F3, hr3, hl3⟩, hk3⟩
    have HC := hid (HB.out.pstep hr3 (fun k hk => .inl (hl3 k hk)) hk3)
    refine hK.out _ _ (hSP HC.out (by simp)) (fun hHeld => ?_)
    clear hK K1 hr3 hl3 hk3
    try simp only [Act.put, List.getElem_toArray, List.getElem_cons_succ, List.getElem_cons_zero, List.setIfInBounds_toArray, List.set_cons_zero, List.set_cons_succ]
    refine wpAnyH_ready (rs := [15]) (by kernel_rfl) (by simp) ?_
    refine AllReadyH.cons rfl (fun K1 hK => ?_) AllReadyH.nil
    go_simp
    refine (rdrop_any xb x G N L ds.length D _ [(i1, g1), (i1, g1)] _ HC.out.ref (hsIn_blk2 (HC.out.aside (W2.heap.size, 30, #[.int .i64 i1, .int .i64 g1, .int .i64 i1, .int .i64 g1]) (by simp)).1 (HC.out.aside (W2.heap.size, 30, #[.int .i64 i1, .int .i64 g1, .int .i64 i1, .int .i64 g1]) (by simp)).2.2) (by simp) (by omega) (by omega) (lr_drop HLR.out [(i1, g1), (i1, g1)]).2.2).mono ?_
    rintro e w4 ⟨rfl, hr4, hk4⟩
    have HD := hid (HC.out.rstep hr4 (fun k hk => .inl hk) hk4)
    refine hK.out _ _ (hSP HD.out (by simp)) (fun hHeld => ?_)
    clear hK K1 hr4 hk4
    refine wpAnyH_take (i := 16) (v := ?_) rfl (by kernel_rfl) (by kernel_rfl) (by kernel_rfl) (fun _ _ _ h => h) ?_ (by assumption) ?_
    rotate_left 1
    · first | (apply Or.inl; constructor; rfl; intro Wx hSw; obtain ⟨s1_, s2_, s3_, s4_⟩ := (hSe _).1 hSw; go_simp; try (with_reducible rfl)) | (apply Or.inr; constructor; rfl; rfl)
    try simp only [Act.put, List.getElem_toArray, List.getElem_cons_succ, List.getElem_cons_zero, List.setIfInBounds_toArray, List.set_cons_zero, List.set_cons_succ]
    refine wpAnyH_take (i := 17) (v := ?_) rfl (by kernel_rfl) (by kernel_rfl) (by kernel_rfl) (fun _ _ _ h => h) ?_ (by assumption) ?_
    rotate_left 1
    · first | (apply Or.inl; constructor; rfl; intro Wx hSw; obtain ⟨s1_, s2_, s3_, s4_⟩ := (hSe _).1 hSw; go_simp; try (with_reducible rfl)) | (apply Or.inr; constructor; rfl; rfl)
    try simp only [Act.put, List.getElem_toArray, List.getElem_cons_succ, List.getElem_cons_zero, List.setIfInBounds_toArray, List.set_cons_zero, List.set_cons_succ]
    refine wpAnyH_done (by kernel_rfl) ?_ _
    go_wp2_with fail
    rw [← HP.out]
    have hc := (lr_drop HLR.out [(i1, g1), (i1, g1)]).2.1
    have h4 := HD.out
    have hc2 : ((ds.length : Nat) : Int) - (((takeAll L [(i1, g1), (i1, g1)]).2 : Nat) : Int) = (((outW ds [(i1, g1), (i1, g1)]).length : Nat) : Int) := by omega
    rw [hc2] at h4
    exact ⟨rfl, _, _, _, _, _, (lr_drop HLR.out [(i1, g1), (i1, g1)]).1, fun B hB => (gens_take [(i1, g1), (i1, g1)] (L, 0) hB).1, (gens_take [(i1, g1), (i1, g1)] (L, 0) HGZ.out).2, by omega, h4.away (A' := []) (by simp)⟩
end Go.Proofs.Ytkeffebcmajhmaa
