/- PollPlays: asks, kind 1. -/
import Derived.Test.YtkeffebcmajhmaaPq34
import Derived.Test.YtkeffebcmajhmaaPq32
namespace Go.Proofs.Ytkeffebcmajhmaa
open Go.RowKit
set_option linter.unusedVariables false
set_option linter.unusedSimpArgs false
set_option maxRecDepth 100000 in
set_option maxHeartbeats 16000000 in
theorem asks_1 (w W : World) (pb n xb x q : Nat) (F G : List Nat) (N : NS) (L : List Slot) (ds : WL) (D : Nat → Wd) (gv : Value) (hs : List (Int × Int)) (cc kk : Int) (r u b : Bool) (pv : Value) (h : PB w W pb n xb x q F G N L ds N L ds.length D gv hs []) (hlr : LR L ds D) (hh : 1 ≤ hs.length) (k : Nat) (hk : k ≤ 1000) (hgb : ∀ d ∈ L, 0 ≤ d.1 ∧ d.1 ≤ k) (hLk : L.length ≤ k) (hdk : ds.length ≤ k) (hsk : hs.length ≤ k + 1) :
    Calls Try.prog 67 #[.pointer (some ⟨q, 0, none⟩), .agg (actA 1 cc kk r u b pv)] W fun e w' => e = .returned (.bool true) ∧ ∃ F1 G1 L1 ds1 D1 gv1 hs1, LR L1 ds1 D1 ∧ (∀ d ∈ L1, 0 ≤ d.1 ∧ d.1 ≤ ((k + 1 : Nat) : Int)) ∧ L1.length ≤ k + 1 ∧ ds1.length ≤ k + 1 ∧ hs1.length = hs.length + 1 ∧ PB w w' pb n xb x q F1 G1 N L1 ds1 N L1 ds1.length D1 gv1 hs1 [] := by
  have h1 := h.put (W.heap.size, actT, actA 1 cc kk r u b pv) ((Keeps.refl [] W).alloc (.cells (actA 1 cc kk r u b pv) actT)) (Blk.new W _ _) (Nat.le_refl _)
  have H1 := hid h1
  have HLR := hid hlr
  clear h h1 hlr
  obtain ⟨m, hm⟩ : ∃ m, hs.length = m := ⟨_, rfl⟩
  have hm1 : 1 ≤ m := by omega
  obtain ⟨q1, hq1, -⟩ := and_maskP kk 65535 (by omega)
  obtain ⟨r1, hr1⟩ : ∃ r, q1 % m = r := ⟨_, rfl⟩
  have hr1m : r1 < m := by rw [← hr1]; exact Nat.mod_lt _ (by omega)
  have hmod1 : (bits BinOp.and IntKind.i64 kk 65535).tmod (m : Int) = (r1 : Int) := by
    have h1 : bits BinOp.and IntKind.i64 kk 65535 = (q1 : Int) := hq1
    rw [h1, ← hr1]
    exact (Int.ofNat_tmod q1 m).symm
  obtain ⟨GA, gcap, hgv, -⟩ := H1.out.row.form
  subst hgv
  obtain ⟨gb, go, hga, -, hgc⟩ := (H1.out.row.hsIn (F := []) (by simp)).at_ (by omega)
  subst hga
  obtain ⟨⟨i1, g1⟩, hh1⟩ : ∃ h, hs[r1]? = some h := ⟨hs[r1]'(by omega), List.getElem?_eq_getElem (by omega)⟩
  obtain ⟨d0, d1⟩ := hgc r1 _ hh1
  simp only at d0 d1
  have hr1i : (r1 : Int) < m := by omega
  have hmi : (0 : Int) < m := by omega
  have hmz : ¬ m = 0 := by omega
  obtain ⟨e1, e2, e3, e4, e5⟩ := H1.out.cells
  rw [hm] at e3
  obtain ⟨W1, hW1⟩ : ∃ x, W.alloc (.cells (actA 1 cc kk r u b pv) actT) = x := ⟨_, rfl⟩
  obtain ⟨POST, hPOST⟩ : ∃ P, (fun (e : Ending) (w' : World) => e = .returned (.bool true) ∧ ∃ F1 G1 L1 ds1 D1 gv1 hs1, LR L1 ds1 D1 ∧ (∀ d ∈ L1, 0 ≤ d.1 ∧ d.1 ≤ ((k + 1 : Nat) : Int)) ∧ L1.length ≤ k + 1 ∧ ds1.length ≤ k + 1 ∧ hs1.length = hs.length + 1 ∧ PB w w' pb n xb x q F1 G1 N L1 ds1 N L1 ds1.length D1 gv1 hs1 []) = P := ⟨_, rfl⟩
  rw [hPOST]
  have HP := hid hPOST
  clear hPOST hgc hq1 hr1
  go_enter Try.func67, Try.ntmps67
  go_wp2_with fail
  rw [hW1] at H1 e1 e2 e3 e4 e5 d0 d1
  have x2 := (H1.out.aside (W.heap.size, actT, actA 1 cc kk r u b pv) (by simp)).1.cell 2
  simp at x2
  clear hW1
  obtain ⟨S, hSe⟩ : ∃ S : World → Prop, ∀ w', S w' ↔ (w'.cell? ⟨q, 2, none⟩ = some (.slice (some ⟨gb, go, none⟩) m gcap) ∧ w'.cell? ⟨W.heap.size, 2, none⟩ = some (.int .i64 kk) ∧ w'.cell? ⟨gb, go + r1 * 2, none⟩ = some (.int .i64 i1) ∧ w'.cell? ⟨gb, go + r1 * 2 + 1, none⟩ = some (.int .i64 g1)) := ⟨_, fun _ => Iff.rfl⟩
  have hSk : ∀ w', Keeps [] W1 w' → S w' := fun w' hk => (hSe _).2 ⟨cell_keep hk (by simp) e3, cell_keep hk (by simp) x2, cell_keep hk (by simp) d0, cell_keep hk (by simp) d1⟩
  refine wp_region_held_drew (S := S) (by kernel_rfl) (hSk _ (Keeps.refl [] W1).drew) (fun hHeld => ?_)
  refine wpAnyH_take (i := 0) (v := ?_) rfl (by kernel_rfl) (by kernel_rfl) (by kernel_rfl) (fun _ _ _ h => h) ?_ (by assumption) ?_
  rotate_left 1
  · first | (apply Or.inl; constructor; rfl; intro Wx hSw; obtain ⟨s1_, s2_, s3_, s4_⟩ := (hSe _).1 hSw; go_simp; try (with_reducible rfl)) | (apply Or.inr; constructor; rfl; rfl)
  try simp only [Act.put, List.getElem_toArray, List.getElem_cons_succ, List.getElem_cons_zero, List.setIfInBounds_toArray, List.set_cons_zero, List.set_cons_succ]
  refine wpAnyH_take (i := 1) (v := ?_) rfl (by kernel_rfl) (by kernel_rfl) (by kernel_rfl) (fun _ _ _ h => h) ?_ (by assumption) ?_
  rotate_left 1
  · first | (apply Or.inl; constructor; rfl; intro Wx hSw; obtain ⟨s1_, s2_, s3_, s4_⟩ := (hSe _).1 hSw; go_simp; try (with_reducible rfl)) | (apply Or.inr; constructor; rfl; rfl)
  try simp only [Act.put, List.getElem_toArray, List.getElem_cons_succ, List.getElem_cons_zero, List.setIfInBounds_toArray, List.set_cons_zero, List.set_cons_succ]
  refine wpAnyH_take (i := 2) (v := ?_) rfl (by kernel_rfl) (by kernel_rfl) (by kernel_rfl) (fun _ _ _ h => h) ?_ (by assumption) ?_
  rotate_left 1
  · first | (apply Or.inl; constructor; rfl; intro Wx hSw; obtain ⟨s1_, s2_, s3_, s4_⟩ := (hSe _).1 hSw; go_simp; try (with_reducible rfl)) | (apply Or.inr; constructor; rfl; rfl)
  try simp only [Act.put, List.getElem_toArray, List.getElem_cons_succ, List.getElem_cons_zero, List.setIfInBounds_toArray, List.set_cons_zero, List.set_cons_succ]
  refine wpAnyH_take (i := 3) (v := ?_) rfl (by kernel_rfl) (by kernel_rfl) (by kernel_rfl) (fun _ _ _ h => h) ?_ (by assumption) ?_
  rotate_left 1
  · first | (apply Or.inl; constructor; rfl; intro Wx hSw; obtain ⟨s1_, s2_, s3_, s4_⟩ := (hSe _).1 hSw; go_simp; try (with_reducible rfl)) | (apply Or.inr; constructor; rfl; rfl)
  try simp only [Act.put, List.getElem_toArray, List.getElem_cons_succ, List.getElem_cons_zero, List.setIfInBounds_toArray, List.set_cons_zero, List.set_cons_succ]
  refine wpAnyH_take (i := 4) (v := ?_) rfl (by kernel_rfl) (by kernel_rfl) (by kernel_rfl) (fun _ _ _ h => h) ?_ (by assumption) ?_
  rotate_left 1
  · first | (apply Or.inl; constructor; rfl; intro Wx hSw; obtain ⟨s1_, s2_, s3_, s4_⟩ := (hSe _).1 hSw; go_simp; try (with_reducible rfl)) | (apply Or.inr; constructor; rfl; rfl)
  try simp only [Act.put, List.getElem_toArray, List.getElem_cons_succ, List.getElem_cons_zero, List.setIfInBounds_toArray, List.set_cons_zero, List.set_cons_succ]
  refine wpAnyH_take (i := 5) (v := ?_) rfl (by kernel_rfl) (by kernel_rfl) (by kernel_rfl) (fun _ _ _ h => h) ?_ (by assumption) ?_
  rotate_left 1
  · first | (apply Or.inl; constructor; rfl; intro Wx hSw; obtain ⟨s1_, s2_, s3_, s4_⟩ := (hSe _).1 hSw; go_simp; try (with_reducible rfl)) | (apply Or.inr; constructor; rfl; rfl)
  try simp only [Act.put, List.getElem_toArray, List.getElem_cons_succ, List.getElem_cons_zero, List.setIfInBounds_toArray, List.set_cons_zero, List.set_cons_succ]
  refine wpAnyH_take (i := 6) (v := ?_) rfl (by kernel_rfl) (by kernel_rfl) (by kernel_rfl) (fun _ _ _ h => h) ?_ (by assumption) ?_
  rotate_left 1
  · first | (apply Or.inl; constructor; rfl; intro Wx hSw; obtain ⟨s1_, s2_, s3_, s4_⟩ := (hSe _).1 hSw; go_simp; try (with_reducible rfl)) | (apply Or.inr; constructor; rfl; rfl)
  try simp only [Act.put, List.getElem_toArray, List.getElem_cons_succ, List.getElem_cons_zero, List.setIfInBounds_toArray, List.set_cons_zero, List.set_cons_succ]
  refine wpAnyH_take (i := 7) (v := ?_) rfl (by kernel_rfl) (by kernel_rfl) (by kernel_rfl) (fun _ _ _ h => h) ?_ (by assumption) ?_
  rotate_left 1
  · first | (apply Or.inl; constructor; rfl; intro Wx hSw; obtain ⟨s1_, s2_, s3_, s4_⟩ := (hSe _).1 hSw; go_simp; try (with_reducible rfl)) | (apply Or.inr; constructor; rfl; rfl)
  try simp only [Act.put, List.getElem_toArray, List.getElem_cons_succ, List.getElem_cons_zero, List.setIfInBounds_toArray, List.set_cons_zero, List.set_cons_succ]
  refine wpAnyH_take (i := 8) (v := ?_) rfl (by kernel_rfl) (by kernel_rfl) (by kernel_rfl) (fun _ _ _ h => h) ?_ (by assumption) ?_
  rotate_left 1
  · first | (apply Or.inl; constructor; rfl; intro Wx hSw; obtain ⟨s1_, s2_, s3_, s4_⟩ := (hSe _).1 hSw; go_simp; try (with_reducible rfl)) | (apply Or.inr; constructor; rfl; rfl)
  try simp only [Act.put, List.getElem_toArray, List.getElem_cons_succ, List.getElem_cons_zero, List.setIfInBounds_toArray, List.set_cons_zero, List.set_cons_succ]
  refine wpAnyH_take (i := 9) (v := ?_) rfl (by kernel_rfl) (by kernel_rfl) (by kernel_rfl) (fun _ _ _ h => h) ?_ (by assumption) ?_
  rotate_left 1
  · first | (apply Or.inl; constructor; rfl; intro Wx hSw; obtain ⟨s1_, s2_, s3_, s4_⟩ := (hSe _).1 hSw; go_simp; try (with_reducible rfl)) | (apply Or.inr; constructor; rfl; rfl)
  try simp only [Act.put, List.getElem_toArray, List.getElem_cons_succ, List.getElem_cons_zero, List.setIfInBounds_toArray, List.set_cons_zero, List.set_cons_succ]
  refine wpAnyH_take (i := 10) (v := ?_) rfl (by kernel_rfl) (by kernel_rfl) (by kernel_rfl) (fun _ _ _ h => h) ?_ (by assumption) ?_
  rotate_left 1
  · first | (apply Or.inl; constructor; rfl; intro Wx hSw; obtain ⟨s1_, s2_, s3_, s4_⟩ := (hSe _).1 hSw; go_simp; try (with_reducible rfl)) | (apply Or.inr; constructor; rfl; rfl)
  try simp only [Act.put, List.getElem_toArray, List.getElem_cons_succ, List.getElem_cons_zero, List.setIfInBounds_toArray, List.set_cons_zero, List.set_cons_succ]
  refine wpAnyH_take (i := 11) (v := ?_) rfl (by kernel_rfl) (by kernel_rfl) (by kernel_rfl) (fun _ _ _ h => h) ?_ (by assumption) ?_
  rotate_left 1
  · first | (apply Or.inl; constructor; rfl; intro Wx hSw; obtain ⟨s1_, s2_, s3_, s4_⟩ := (hSe _).1 hSw; go_simp; try (with_reducible rfl)) | (apply Or.inr; constructor; rfl; rfl)
  try simp only [Act.put, List.getElem_toArray, List.getElem_cons_succ, List.getElem_cons_zero, List.setIfInBounds_toArray, List.set_cons_zero, List.set_cons_succ]
  refine wpAnyH_take (i := 12) (v := ?_) rfl (by kernel_rfl) (by kernel_rfl) (by kernel_rfl) (fun _ _ _ h => h) ?_ (by assumption) ?_
  rotate_left 1
  · first | (apply Or.inl; constructor; rfl; intro Wx hSw; obtain ⟨s1_, s2_, s3_, s4_⟩ := (hSe _).1 hSw; go_simp; try (with_reducible rfl)) | (apply Or.inr; constructor; rfl; rfl)
  try simp only [Act.put, List.getElem_toArray, List.getElem_cons_succ, List.getElem_cons_zero, List.setIfInBounds_toArray, List.set_cons_zero, List.set_cons_succ]
  refine wpAnyH_take (i := 13) (v := ?_) rfl (by kernel_rfl) (by kernel_rfl) (by kernel_rfl) (fun _ _ _ h => h) ?_ (by assumption) ?_
  rotate_left 1
  · first | (apply Or.inl; constructor; rfl; intro Wx hSw; obtain ⟨s1_, s2_, s3_, s4_⟩ := (hSe _).1 hSw; go_simp; try (with_reducible rfl)) | (apply Or.inr; constructor; rfl; rfl)
  try simp only [Act.put, List.getElem_toArray, List.getElem_cons_succ, List.getElem_cons_zero, List.setIfInBounds_toArray, List.set_cons_zero, List.set_cons_succ]
  refine wpAnyH_take (i := 14) (v := ?_) rfl (by kernel_rfl) (by kernel_rfl) (by kernel_rfl) (fun _ _ _ h => h) ?_ (by assumption) ?_
  rotate_left 1
  · first | (apply Or.inl; constructor; rfl; intro Wx hSw; obtain ⟨s1_, s2_, s3_, s4_⟩ := (hSe _).1 hSw; go_simp; try (with_reducible rfl)) | (apply Or.inr; constructor; rfl; rfl)
  try simp only [Act.put, List.getElem_toArray, List.getElem_cons_succ, List.getElem_cons_zero, List.setIfInBounds_toArray, List.set_cons_zero, List.set_cons_succ]
  refine wpAnyH_ready (rs := [15]) (by kernel_rfl) (by simp) ?_
  refine AllReadyH.cons rfl (fun K1 hK => ?_) AllReadyH.nil
  go_simp
  refine hK.out _ _ (hSk _ ((Keeps.refl [] W1).drew.alloc _)) (fun hHeld => ?_)
  clear hK K1
  try simp only [Act.put, List.getElem_toArray, List.getElem_cons_succ, List.getElem_cons_zero, List.setIfInBounds_toArray, List.set_cons_zero, List.set_cons_succ]
  refine wpAnyH_ready (rs := [16]) (by kernel_rfl) (by simp) ?_
  refine AllReadyH.cons rfl (fun K1 hK => ?_) AllReadyH.nil
  go_simp
  have hk2 : Keeps [] W1 (W1.alloc (.cells #[.int .i64 i1, .int .i64 g1] 30)).drew := ((Keeps.refl [] W1).alloc _).drew
  refine hK.out _ _ (hSk _ hk2) (fun hHeld => ?_)
  clear hK K1
  refine wpAnyH_done (by kernel_rfl) ?_ _
  have hb5 : Blk (W1.alloc (.cells #[.int .i64 i1, .int .i64 g1] 30)).drew W1.heap.size 30 #[.int .i64 i1, .int .i64 g1] := Blk.drew (Blk.new W1 _ _)
  have h2 := H1.out.put (W1.heap.size, 30, #[.int .i64 i1, .int .i64 g1]) hk2 hb5 (Nat.le_refl _)
  have H2 := hid h2
  obtain ⟨a5, ha5⟩ : ∃ a, W1.heap.size = a := ⟨_, rfl⟩
  rw [ha5] at H2 ⊢
  obtain ⟨W2, hW2⟩ : ∃ x, (W1.alloc (.cells #[.int .i64 i1, .int .i64 g1] 30)).drew = x := ⟨_, rfl⟩
  rw [hW2] at H2 ⊢
  clear h2 hb5 hk2 hW2 hSk hSe hHeld ha5 e1 e2 e3 e4 e5 d0 d1 x2 H1 hmod1 hr1i hmi hmz
  have e1 := H2.out.cells.1
  have e2 := H2.out.cells.2.1
  have x0 := (H2.out.aside (W.heap.size, actT, actA 1 cc kk r u b pv) (by simp)).1.cell 0
  have x3 := (H2.out.aside (W.heap.size, actT, actA 1 cc kk r u b pv) (by simp)).1.cell 3
  have x4 := (H2.out.aside (W.heap.size, actT, actA 1 cc kk r u b pv) (by simp)).1.cell 4
  have y0 := (H2.out.aside (a5, 30, #[.int .i64 i1, .int .i64 g1]) (by simp)).1.cell 0
  have y1 := (H2.out.aside (a5, 30, #[.int .i64 i1, .int .i64 g1]) (by simp)).1.cell 1
  simp at x0 x3 x4 y0 y1
  have HGB := hid hgb
  clear hgb
  have x1 := (H2.out.aside (W.heap.size, actT, actA 1 cc kk r u b pv) (by simp)).1.cell 1
  have x5 := (H2.out.aside (W.heap.size, actT, actA 1 cc kk r u b pv) (by simp)).1.cell 5
  simp at x1 x5
  go_wp2_with fail
  obtain ⟨hi, hg, er, L1, ds1, D1, w1, w2, w3, w4, hpw, hrw⟩ := watch_both (N := N) HLR.out cc r u b k hk HGB.out hLk hdk
  have HW := hid (⟨w1, w2, w3, w4⟩ : LR L1 ds1 D1 ∧ (∀ d ∈ L1, 0 ≤ d.1 ∧ d.1 ≤ ((k + 1 : Nat) : Int)) ∧ L1.length ≤ k + 1 ∧ ds1.length ≤ k + 1)
  have HPW := hid hpw
  have HRW := hid hrw
  clear w1 w2 w3 w4 hpw hrw
  obtain ⟨S2, hSe⟩ : ∃ S : World → Prop, ∀ w', S w' ↔ (w'.cell? ⟨q, 0, none⟩ = some (.pointer (some ⟨pb, 0, none⟩)) ∧ w'.cell? ⟨q, 1, none⟩ = some (.pointer (some ⟨xb, 0, none⟩)) ∧ w'.cell? ⟨W.heap.size, 1, none⟩ = some (.int .i64 cc) ∧ w'.cell? ⟨W.heap.size, 3, none⟩ = some (.bool r) ∧ w'.cell? ⟨W.heap.size, 4, none⟩ = some (.bool u) ∧ w'.cell? ⟨W.heap.size, 5, none⟩ = some (.bool b)) := ⟨_, fun _ => Iff.rfl⟩
  have hSP : ∀ {w' : World} {F G : List Nat} {M1 : NS} {L1 L2 : List Slot} {ds1 : WL} {c1 : Int} {D1 : Nat → Wd} {A : AL}, PB w w' pb n xb x q F G N L1 ds1 M1 L2 c1 D1 (.slice (some ⟨gb, go, none⟩) hs.length gcap) hs A → (W.heap.size, actT, actA 1 cc kk r u b pv) ∈ A → S2 w' := fun h hA => (hSe _).2 ⟨h.cells.1, h.cells.2.1, by simpa using (h.aside _ hA).1.cell 1, by simpa using (h.aside _ hA).1.cell 3, by simpa using (h.aside _ hA).1.cell 4, by simpa using (h.aside _ hA).1.cell 5⟩
  go_cut [6, 7] (fun t6 t7 wx => ∃ b6 F1, t6 = .pointer (some ⟨b6, 0, none⟩) ∧ t7 = .int .i64 er ∧ gb ≠ b6 ∧ PB w wx pb n xb x q F1 G N L1 ds1 N L ds.length D (.slice (some ⟨gb, go, none⟩) hs.length gcap) hs [(b6, 30, #[.int .i64 hi, .int .i64 hg]), (W.heap.size, actT, actA 1 cc kk r u b pv)])
  case first =>
    refine wp_region_held_drew (S := S2) (by kernel_rfl) (hSP (H2.out.next (Keeps.refl [] W2).drew) (by simp)) (fun hHeld => ?_)
    refine wpAnyH_take (i := 0) (v := ?_) rfl (by kernel_rfl) (by kernel_rfl) (by kernel_rfl) (fun _ _ _ h => h) ?_ (by assumption) ?_
    rotate_left 1
    · first | (apply Or.inl; constructor; rfl; intro Wx hSw; obtain ⟨s1_, s2_, s3_, s4_, s5_, s6_⟩ := (hSe _).1 hSw; go_simp; try (with_reducible rfl)) | (apply Or.inr; constructor; rfl; rfl)
    try simp only [Act.put, List.getElem_toArray, List.getElem_cons_succ, List.getElem_cons_zero, List.setIfInBounds_toArray, List.set_cons_zero, List.set_cons_succ]
    refine wpAnyH_take (i := 1) (v := ?_) rfl (by kernel_rfl) (by kernel_rfl) (by kernel_rfl) (fun _ _ _ h => h) ?_ (by assumption) ?_
    rotate_left 1
    · first | (apply Or.inl; constructor; rfl; intro Wx hSw; obtain ⟨s1_, s2_, s3_, s4_, s5_, s6_⟩ := (hSe _).1 hSw; go_simp; try (with_reducible rfl)) | (apply Or.inr; constructor; rfl; rfl)
    try simp only [Act.put, List.getElem_toArray, List.getElem_cons_succ, List.getElem_cons_zero, List.setIfInBounds_toArray, List.set_cons_zero, List.set_cons_succ]
    refine wpAnyH_take (i := 2) (v := ?_) rfl (by kernel_rfl) (by kernel_rfl) (by kernel_rfl) (fun _ _ _ h => h) ?_ (by assumption) ?_
    rotate_left 1
    · first | (apply Or.inl; constructor; rfl; intro Wx hSw; obtain ⟨s1_, s2_, s3_, s4_, s5_, s6_⟩ := (hSe _).1 hSw; go_simp; try (with_reducible rfl)) | (apply Or.inr; constructor; rfl; rfl)
    try simp only [Act.put, List.getElem_toArray, List.getElem_cons_succ, List.getElem_cons_zero, List.setIfInBounds_toArray, List.set_cons_zero, List.set_cons_succ]
    refine wpAnyH_take (i := 3) (v := ?_) rfl (by kernel_rfl) (by kernel_rfl) (by kernel_rfl) (fun _ _ _ h => h) ?_ (by assumption) ?_
    rotate_left 1
    · first | (apply Or.inl; constructor; rfl; intro Wx hSw; obtain ⟨s1_, s2_, s3_, s4_, s5_, s6_⟩ := (hSe _).1 hSw; go_simp; try (with_reducible rfl)) | (apply Or.inr; constructor; rfl; rfl)
    try simp only [Act.put, List.getElem_toArray, List.getElem_cons_succ, List.getElem_cons_zero, List.setIfInBounds_toArray, List.set_cons_zero, List.set_cons_succ]
    refine wpAnyH_take (i := 4) (v := ?_) rfl (by kernel_rfl) (by kernel_rfl) (by kernel_rfl) (fun _ _ _ h => h) ?_ (by assumption) ?_
    rotate_left 1
    · first | (apply Or.inl; constructor; rfl; intro Wx hSw; obtain ⟨s1_, s2_, s3_, s4_, s5_, s6_⟩ := (hSe _).1 hSw; go_simp; try (with_reducible rfl)) | (apply Or.inr; constructor; rfl; rfl)
    try simp only [Act.put, List.getElem_toArray, List.getElem_cons_succ, List.getElem_cons_zero, List.setIfInBounds_toArray, List.set_cons_zero, List.set_cons_succ]
    refine wpAnyH_take (i := 5) (v := ?_) rfl (by kernel_rfl) (by kernel_rfl) (by kernel_rfl) (fun _ _ _ h => h) ?_ (by assumption) ?_
    rotate_left 1
    · first | (apply Or.inl; constructor; rfl; intro Wx hSw; obtain ⟨s1_, s2_, s3_, s4_, s5_, s6_⟩ := (hSe _).1 hSw; go_simp; try (with_reducible rfl)) | (apply Or.inr; constructor; rfl; rfl)
    try simp only [Act.put, List.getElem_toArray, List.getElem_cons_succ, List.getElem_cons_zero, List.setIfInBounds_toArray, List.set_cons_zero, List.set_cons_succ]
    refine wpAnyH_take (i := 6) (v := ?_) rfl (by kernel_rfl) (by kernel_rfl) (by kernel_rfl) (fun _ _ _ h => h) ?_ (by assumption) ?_
    rotate_left 1
    · first | (apply Or.inl; constructor; rfl; intro Wx hSw; obtain ⟨s1_, s2_, s3_, s4_, s5_, s6_⟩ := (hSe _).1 hSw; go_simp; try (with_reducible rfl)) | (apply Or.inr; constructor; rfl; rfl)
    try simp only [Act.put, List.getElem_toArray, List.getElem_cons_succ, List.getElem_cons_zero, List.setIfInBounds_toArray, List.set_cons_zero, List.set_cons_succ]
    refine wpAnyH_take (i := 7) (v := ?_) rfl (by kernel_rfl) (by kernel_rfl) (by kernel_rfl) (fun _ _ _ h => h) ?_ (by assumption) ?_
    rotate_left 1
    · first | (apply Or.inl; constructor; rfl; intro Wx hSw; obtain ⟨s1_, s2_, s3_, s4_, s5_, s6_⟩ := (hSe _).1 hSw; go_simp; try (with_reducible rfl)) | (apply Or.inr; constructor; rfl; rfl)
    try simp only [Act.put, List.getElem_toArray, List.getElem_cons_succ, List.getElem_cons_zero, List.setIfInBounds_toArray, List.set_cons_zero, List.set_cons_succ]
    refine wpAnyH_take (i := 8) (v := ?_) rfl (by kernel_rfl) (by kernel_rfl) (by kernel_rfl) (fun _ _ _ h => h) ?_ (by assumption) ?_
    rotate_left 1
    · first | (apply Or.inl; constructor; rfl; intro Wx hSw; obtain ⟨s1_, s2_, s3_, s4_, s5_, s6_⟩ := (hSe _).1 hSw; go_simp; try (with_reducible rfl)) | (apply Or.inr; constructor; rfl; rfl)
    try simp only [Act.put, List.getElem_toArray, List.getElem_cons_succ, List.getElem_cons_zero, List.setIfInBounds_toArray, List.set_cons_zero, List.set_cons_succ]
    refine wpAnyH_take (i := 9) (v := ?_) rfl (by kernel_rfl) (by kernel_rfl) (by kernel_rfl) (fun _ _ _ h => h) ?_ (by assumption) ?_
    rotate_left 1
    · first | (apply Or.inl; constructor; rfl; intro Wx hSw; obtain ⟨s1_, s2_, s3_, s4_, s5_, s6_⟩ := (hSe _).1 hSw; go_simp; try (with_reducible rfl)) | (apply Or.inr; constructor; rfl; rfl)
    try simp only [Act.put, List.getElem_toArray, List.getElem_cons_succ, List.getElem_cons_zero, List.setIfInBounds_toArray, List.set_cons_zero, List.set_cons_succ]
    refine wpAnyH_take (i := 10) (v := ?_) rfl (by kernel_rfl) (by kernel_rfl) (by kernel_rfl) (fun _ _ _ h => h) ?_ (by assumption) ?_
    rotate_left 1
    · first | (apply Or.inl; constructor; rfl; intro Wx hSw; obtain ⟨s1_, s2_, s3_, s4_, s5_, s6_⟩ := (hSe _).1 hSw; go_simp; try (with_reducible rfl)) | (apply Or.inr; constructor; rfl; rfl)
    try simp only [Act.put, List.getElem_toArray, List.getElem_cons_succ, List.getElem_cons_zero, List.setIfInBounds_toArray, List.set_cons_zero, List.set_cons_succ]
    refine wpAnyH_take (i := 11) (v := ?_) rfl (by kernel_rfl) (by kernel_rfl) (by kernel_rfl) (fun _ _ _ h => h) ?_ (by assumption) ?_
    rotate_left 1
    · first | (apply Or.inl; constructor; rfl; intro Wx hSw; obtain ⟨s1_, s2_, s3_, s4_, s5_, s6_⟩ := (hSe _).1 hSw; go_simp; try (with_reducible rfl)) | (apply Or.inr; constructor; rfl; rfl)
    try simp only [Act.put, List.getElem_toArray, List.getElem_cons_succ, List.getElem_cons_zero, List.setIfInBounds_toArray, List.set_cons_zero, List.set_cons_succ]
    refine wpAnyH_ready (rs := [12, 16]) (by kernel_rfl) (by simp) ?_
    refine AllReadyH.cons rfl (fun K1 hK => ?_) (AllReadyH.cons rfl (fun K1 hK => ?_) AllReadyH.nil)
    · go_simp
      have hp := H2.out.next (Keeps.refl [] W2).drew
      refine (HPW.out _ pb n F hp.prog).mono ?_
      rintro e w3 ⟨rfl, F1, hr3, hl3, hk3⟩
      have H3 := hid ((hp.pstep hr3 hl3 hk3).away (A' := [(W.heap.size, actT, actA 1 cc kk r u b pv)]) (by simp))
      refine hK.out _ _ (hSP H3.out (by simp)) (fun hHeld => ?_)
      clear hK K1 hp hr3 hl3 hk3
      refine wpAnyH_take (i := 13) (v := ?_) rfl (by kernel_rfl) (by kernel_rfl) (by kernel_rfl) (fun _ _ _ h => h) ?_ (by assumption) ?_
      rotate_left 1
      · first | (apply Or.inl; constructor; rfl; intro Wx hSw; obtain ⟨s1_, s2_, s3_, s4_, s5_, s6_⟩ := (hSe _).1 hSw; go_simp; try (with_reducible rfl)) | (apply Or.inr; constructor; rfl; rfl)
      try simp only [Act.put, List.getElem_toArray, List.getElem_cons_succ, List.getElem_cons_zero, List.setIfInBounds_toArray, List.set_cons_zero, List.set_cons_succ]
      refine wpAnyH_take (i := 14) (v := ?_) rfl (by kernel_rfl) (by kernel_rfl) (by kernel_rfl) (fun _ _ _ h => h) ?_ (by assumption) ?_
      rotate_left 1
      · first | (apply Or.inl; constructor; rfl; intro Wx hSw; obtain ⟨s1_, s2_, s3_, s4_, s5_, s6_⟩ := (hSe _).1 hSw; go_simp; try (with_reducible rfl)) | (apply Or.inr; constructor; rfl; rfl)
      try simp only [Act.put, List.getElem_toArray, List.getElem_cons_succ, List.getElem_cons_zero, List.setIfInBounds_toArray, List.set_cons_zero, List.set_cons_succ]
      refine wpAnyH_take (i := 15) (v := ?_) rfl (by kernel_rfl) (by kernel_rfl) (by kernel_rfl) (fun _ _ _ h => h) ?_ (by assumption) ?_
      rotate_left 1
      · first | (apply Or.inl; constructor; rfl; intro Wx hSw; obtain ⟨s1_, s2_, s3_, s4_, s5_, s6_⟩ := (hSe _).1 hSw; go_simp; try (with_reducible rfl)) | (apply Or.inr; constructor; rfl; rfl)
      try simp only [Act.put, List.getElem_toArray, List.getElem_cons_succ, List.getElem_cons_zero, List.setIfInBounds_toArray, List.set_cons_zero, List.set_cons_succ]
      refine wpAnyH_ready (rs := [16]) (by kernel_rfl) (by simp) ?_
      refine AllReadyH.cons rfl (fun K1 hK => ?_) AllReadyH.nil
      go_simp
      refine hK.out _ _ (hSP (H3.out.next ((Keeps.refl [] w3).alloc _)) (by simp)) (fun hHeld => ?_)
      clear hK K1
      try simp only [Act.put, List.getElem_toArray, List.getElem_cons_succ, List.getElem_cons_zero, List.setIfInBounds_toArray, List.set_cons_zero, List.set_cons_succ]
      refine wpAnyH_ready (rs := [17]) (by kernel_rfl) (by simp) ?_
      refine AllReadyH.cons rfl (fun K1 hK => ?_) AllReadyH.nil
      go_simp
      have H4 := hid (H3.out.put (w3.heap.size, 30, #[.int .i64 hi, .int .i64 hg]) ((Keeps.refl [] w3).alloc _) (Blk.new w3 _ _) (Nat.le_refl _))
      refine hK.out _ _ (hSP H4.out (by simp)) (fun hHeld => ?_)
      clear hK K1
      refine wpAnyH_take (i := 18) (v := ?_) rfl (by kernel_rfl) (by kernel_rfl) (by kernel_rfl) (fun _ _ _ h => h) ?_ (by assumption) ?_
      rotate_left 1
      · first | (apply Or.inl; constructor; rfl; intro Wx hSw; obtain ⟨s1_, s2_, s3_, s4_, s5_, s6_⟩ := (hSe _).1 hSw; go_simp; try (with_reducible rfl)) | (apply Or.inr; constructor; rfl; rfl)
      try simp only [Act.put, List.getElem_toArray, List.getElem_cons_succ, List.getElem_cons_zero, List.setIfInBounds_toArray, List.set_cons_zero, List.set_cons_succ]
      refine wpAnyH_done (by kernel_rfl) ?_ _
      have hgb6 : gb ≠ w3.heap.size := fun e => by have := H3.out.row.lt gb rfl; omega
      go_wp2_with fail
      go_meet
      case rel => exact ⟨_, _, rfl, rfl, hgb6, H4.out⟩
    · go_simp
      have H2a := hid ((H2.out.away (A' := [(W.heap.size, actT, actA 1 cc kk r u b pv)]) (by simp)).put (W2.heap.size, 30, #[.int .i64 0, .int .i64 0]) ((Keeps.refl [] W2).drew.alloc _) (Blk.new W2.drew _ _) (Nat.le_refl _))
      refine hK.out _ _ (hSP H2a.out (by simp)) (fun hHeld => ?_)
      clear hK K1
      try simp only [Act.put, List.getElem_toArray, List.getElem_cons_succ, List.getElem_cons_zero, List.setIfInBounds_toArray, List.set_cons_zero, List.set_cons_succ]
      refine wpAnyH_ready (rs := [12]) (by kernel_rfl) (by simp) ?_
      refine AllReadyH.cons rfl (fun K1 hK => ?_) AllReadyH.nil
      go_simp
      refine (HPW.out _ pb n F H2a.out.prog).mono ?_
      rintro e w3 ⟨rfl, F1, hr3, hl3, hk3⟩
      have H3 := hid (H2a.out.pstep hr3 hl3 hk3)
      refine hK.out _ _ (hSP H3.out (by simp)) (fun hHeld => ?_)
      clear hK K1 hr3 hl3 hk3
      refine wpAnyH_take (i := 13) (v := ?_) rfl (by kernel_rfl) (by kernel_rfl) (by kernel_rfl) (fun _ _ _ h => h) ?_ (by assumption) ?_
      rotate_left 1
      · first | (apply Or.inl; constructor; rfl; intro Wx hSw; obtain ⟨s1_, s2_, s3_, s4_, s5_, s6_⟩ := (hSe _).1 hSw; go_simp; try (with_reducible rfl)) | (apply Or.inr; constructor; rfl; rfl)
      try simp only [Act.put, List.getElem_toArray, List.getElem_cons_succ, List.getElem_cons_zero, List.setIfInBounds_toArray, List.set_cons_zero, List.set_cons_succ]
      refine wpAnyH_take (i := 14) (v := ?_) rfl (by kernel_rfl) (by kernel_rfl) (by kernel_rfl) (fun _ _ _ h => h) ?_ (by assumption) ?_
      rotate_left 1
      · first | (apply Or.inl; constructor; rfl; intro Wx hSw; obtain ⟨s1_, s2_, s3_, s4_, s5_, s6_⟩ := (hSe _).1 hSw; go_simp; try (with_reducible rfl)) | (apply Or.inr; constructor; rfl; rfl)
      try simp only [Act.put, List.getElem_toArray, List.getElem_cons_succ, List.getElem_cons_zero, List.setIfInBounds_toArray, List.set_cons_zero, List.set_cons_succ]
      refine wpAnyH_take (i := 15) (v := ?_) rfl (by kernel_rfl) (by kernel_rfl) (by kernel_rfl) (fun _ _ _ h => h) ?_ (by assumption) ?_
      rotate_left 1
      · first | (apply Or.inl; constructor; rfl; intro Wx hSw; obtain ⟨s1_, s2_, s3_, s4_, s5_, s6_⟩ := (hSe _).1 hSw; go_simp; try (with_reducible rfl)) | (apply Or.inr; constructor; rfl; rfl)
      try simp only [Act.put, List.getElem_toArray, List.getElem_cons_succ, List.getElem_cons_zero, List.setIfInBounds_toArray, List.set_cons_zero, List.set_cons_succ]
      have hbz := (H3.out.aside (W2.heap.size, 30, #[.int .i64 0, .int .i64 0]) (by simp)).1
      have c0 := hbz.cell 0
      have c1 := hbz.cell 1
      have f0 := hbz.frozen 0
      have f1 := hbz.frozen 1
      simp at c0 c1
      refine wpAnyH_ready (rs := [17]) (by kernel_rfl) (by simp) ?_
      refine AllReadyH.cons rfl (fun K1 hK => ?_) AllReadyH.nil
      go_simp
      have hk4 : Keeps [W2.heap.size] w3 ((w3.setCell ⟨W2.heap.size, 0, none⟩ (.int .i64 hi)).setCell ⟨W2.heap.size, 1, none⟩ (.int .i64 hg)) := ((Keeps.refl _ w3).setCell (.inl (by simp)) _).setCell (.inl (by simp)) _
      have H4 := hid (H3.out.far (A' := [(W.heap.size, actT, actA 1 cc kk r u b pv)]) (cs := #[.int .i64 0, .int .i64 0]) (t := 30) (cs' := #[.int .i64 hi, .int .i64 hg]) (g := W2.heap.size) (by simp) H2.out.kp.size (fun e => by have := H2.out.blk.lt; omega) (fun e => by have := H2.out.row.lt _ e; omega) (fun a ha => by simp at ha; subst ha; exact ⟨by simp, fun e => by have := (H2.out.aside (W.heap.size, actT, actA 1 cc kk r u b pv) (by simp)).1.lt; simp at e this; omega⟩) hk4 (pblk_eq ((hbz.set_ 0 (.int .i64 hi)).set_ 1 (.int .i64 hg)) (by simp)))
      refine hK.out _ _ (hSP H4.out (by simp)) (fun hHeld => ?_)
      clear hK K1 hk4 hbz
      refine wpAnyH_take (i := 18) (v := ?_) rfl (by kernel_rfl) (by kernel_rfl) (by kernel_rfl) (fun _ _ _ h => h) ?_ (by assumption) ?_
      rotate_left 1
      · first | (apply Or.inl; constructor; rfl; intro Wx hSw; obtain ⟨s1_, s2_, s3_, s4_, s5_, s6_⟩ := (hSe _).1 hSw; go_simp; try (with_reducible rfl)) | (apply Or.inr; constructor; rfl; rfl)
      try simp only [Act.put, List.getElem_toArray, List.getElem_cons_succ, List.getElem_cons_zero, List.setIfInBounds_toArray, List.set_cons_zero, List.set_cons_succ]
      refine wpAnyH_done (by kernel_rfl) ?_ _
      have hgb6 : gb ≠ W2.heap.size := fun e => by have := H2.out.row.lt gb rfl; omega
      go_wp2_with fail
      go_meet
      case rel => exact ⟨_, _, rfl, rfl, hgb6, H4.out⟩
  case rest =>
  obtain ⟨b6, F1, rfl, rfl, hgb6, h5⟩ := hcut
  obtain ⟨W5, rfl⟩ : ∃ x, x = wc := ⟨wc, rfl⟩
  have H5 := hid h5
  clear h5
  go_wp2_with fail
  go_cut [8, 9] (fun t8 t9 wx => ∃ b8 G1, t8 = .pointer (some ⟨b8, 0, none⟩) ∧ t9 = .int .i64 er ∧ gb ≠ b8 ∧ PB w wx pb n xb x q F1 G1 N L1 ds1 N L1 ds1.length D1 (.slice (some ⟨gb, go, none⟩) hs.length gcap) hs [(b8, 30, #[.int .i64 hi, .int .i64 hg]), (b6, 30, #[.int .i64 hi, .int .i64 hg]), (W.heap.size, actT, actA 1 cc kk r u b pv)])
  case first =>
    refine wp_region_held_drew (S := S2) (by kernel_rfl) (hSP (H5.out.next (Keeps.refl [] W5).drew) (by simp)) (fun hHeld => ?_)
    refine wpAnyH_take (i := 0) (v := ?_) rfl (by kernel_rfl) (by kernel_rfl) (by kernel_rfl) (fun _ _ _ h => h) ?_ (by assumption) ?_
    rotate_left 1
    · first | (apply Or.inl; constructor; rfl; intro Wx hSw; obtain ⟨s1_, s2_, s3_, s4_, s5_, s6_⟩ := (hSe _).1 hSw; go_simp; try (with_reducible rfl)) | (apply Or.inr; constructor; rfl; rfl)
    try simp only [Act.put, List.getElem_toArray, List.getElem_cons_succ, List.getElem_cons_zero, List.setIfInBounds_toArray, List.set_cons_zero, List.set_cons_succ]
    refine wpAnyH_take (i := 1) (v := ?_) rfl (by kernel_rfl) (by kernel_rfl) (by kernel_rfl) (fun _ _ _ h => h) ?_ (by assumption) ?_
    rotate_left 1
    · first | (apply Or.inl; constructor; rfl; intro Wx hSw; obtain ⟨s1_, s2_, s3_, s4_, s5_, s6_⟩ := (hSe _).1 hSw; go_simp; try (with_reducible rfl)) | (apply Or.inr; constructor; rfl; rfl)
    try simp only [Act.put, List.getElem_toArray, List.getElem_cons_succ, List.getElem_cons_zero, List.setIfInBounds_toArray, List.set_cons_zero, List.set_cons_succ]
    refine wpAnyH_take (i := 2) (v := ?_) rfl (by kernel_rfl) (by kernel_rfl) (by kernel_rfl) (fun _ _ _ h => h) ?_ (by assumption) ?_
    rotate_left 1
    · first | (apply Or.inl; constructor; rfl; intro Wx hSw; obtain ⟨s1_, s2_, s3_, s4_, s5_, s6_⟩ := (hSe _).1 hSw; go_simp; try (with_reducible rfl)) | (apply Or.inr; constructor; rfl; rfl)
    try simp only [Act.put, List.getElem_toArray, List.getElem_cons_succ, List.getElem_cons_zero, List.setIfInBounds_toArray, List.set_cons_zero, List.set_cons_succ]
    refine wpAnyH_take (i := 3) (v := ?_) rfl (by kernel_rfl) (by kernel_rfl) (by kernel_rfl) (fun _ _ _ h => h) ?_ (by assumption) ?_
    rotate_left 1
    · first | (apply Or.inl; constructor; rfl; intro Wx hSw; obtain ⟨s1_, s2_, s3_, s4_, s5_, s6_⟩ := (hSe _).1 hSw; go_simp; try (with_reducible rfl)) | (apply Or.inr; constructor; rfl; rfl)
    try simp only [Act.put, List.getElem_toArray, List.getElem_cons_succ, List.getElem_cons_zero, List.setIfInBounds_toArray, List.set_cons_zero, List.set_cons_succ]
    refine wpAnyH_take (i := 4) (v := ?_) rfl (by kernel_rfl) (by kernel_rfl) (by kernel_rfl) (fun _ _ _ h => h) ?_ (by assumption) ?_
    rotate_left 1
    · first | (apply Or.inl; constructor; rfl; intro Wx hSw; obtain ⟨s1_, s2_, s3_, s4_, s5_, s6_⟩ := (hSe _).1 hSw; go_simp; try (with_reducible rfl)) | (apply Or.inr; constructor; rfl; rfl)
    try simp only [Act.put, List.getElem_toArray, List.getElem_cons_succ, List.getElem_cons_zero, List.setIfInBounds_toArray, List.set_cons_zero, List.set_cons_succ]
    refine wpAnyH_take (i := 5) (v := ?_) rfl (by kernel_rfl) (by kernel_rfl) (by kernel_rfl) (fun _ _ _ h => h) ?_ (by assumption) ?_
    rotate_left 1
    · first | (apply Or.inl; constructor; rfl; intro Wx hSw; obtain ⟨s1_, s2_, s3_, s4_, s5_, s6_⟩ := (hSe _).1 hSw; go_simp; try (with_reducible rfl)) | (apply Or.inr; constructor; rfl; rfl)
    try simp only [Act.put, List.getElem_toArray, List.getElem_cons_succ, List.getElem_cons_zero, List.setIfInBounds_toArray, List.set_cons_zero, List.set_cons_succ]
    refine wpAnyH_take (i := 6) (v := ?_) rfl (by kernel_rfl) (by kernel_rfl) (by kernel_rfl) (fun _ _ _ h => h) ?_ (by assumption) ?_
    rotate_left 1
    · first | (apply Or.inl; constructor; rfl; intro Wx hSw; obtain ⟨s1_, s2_, s3_, s4_, s5_, s6_⟩ := (hSe _).1 hSw; go_simp; try (with_reducible rfl)) | (apply Or.inr; constructor; rfl; rfl)
    try simp only [Act.put, List.getElem_toArray, List.getElem_cons_succ, List.getElem_cons_zero, List.setIfInBounds_toArray, List.set_cons_zero, List.set_cons_succ]
    refine wpAnyH_take (i := 7) (v := ?_) rfl (by kernel_rfl) (by kernel_rfl) (by kernel_rfl) (fun _ _ _ h => h) ?_ (by assumption) ?_
    rotate_left 1
    · first | (apply Or.inl; constructor; rfl; intro Wx hSw; obtain ⟨s1_, s2_, s3_, s4_, s5_, s6_⟩ := (hSe _).1 hSw; go_simp; try (with_reducible rfl)) | (apply Or.inr; constructor; rfl; rfl)
    try simp only [Act.put, List.getElem_toArray, List.getElem_cons_succ, List.getElem_cons_zero, List.setIfInBounds_toArray, List.set_cons_zero, List.set_cons_succ]
    refine wpAnyH_take (i := 8) (v := ?_) rfl (by kernel_rfl) (by kernel_rfl) (by kernel_rfl) (fun _ _ _ h => h) ?_ (by assumption) ?_
    rotate_left 1
    · first | (apply Or.inl; constructor; rfl; intro Wx hSw; obtain ⟨s1_, s2_, s3_, s4_, s5_, s6_⟩ := (hSe _).1 hSw; go_simp; try (with_reducible rfl)) | (apply Or.inr; constructor; rfl; rfl)
    try simp only [Act.put, List.getElem_toArray, List.getElem_cons_succ, List.getElem_cons_zero, List.setIfInBounds_toArray, List.set_cons_zero, List.set_cons_succ]
    refine wpAnyH_take (i := 9) (v := ?_) rfl (by kernel_rfl) (by kernel_rfl) (by kernel_rfl) (fun _ _ _ h => h) ?_ (by assumption) ?_
    rotate_left 1
    · first | (apply Or.inl; constructor; rfl; intro Wx hSw; obtain ⟨s1_, s2_, s3_, s4_, s5_, s6_⟩ := (hSe _).1 hSw; go_simp; try (with_reducible rfl)) | (apply Or.inr; constructor; rfl; rfl)
    try simp only [Act.put, List.getElem_toArray, List.getElem_cons_succ, List.getElem_cons_zero, List.setIfInBounds_toArray, List.set_cons_zero, List.set_cons_succ]
    refine wpAnyH_take (i := 10) (v := ?_) rfl (by kernel_rfl) (by kernel_rfl) (by kernel_rfl) (fun _ _ _ h => h) ?_ (by assumption) ?_
    rotate_left 1
    · first | (apply Or.inl; constructor; rfl; intro Wx hSw; obtain ⟨s1_, s2_, s3_, s4_, s5_, s6_⟩ := (hSe _).1 hSw; go_simp; try (with_reducible rfl)) | (apply Or.inr; constructor; rfl; rfl)
    try simp only [Act.put, List.getElem_toArray, List.getElem_cons_succ, List.getElem_cons_zero, List.setIfInBounds_toArray, List.set_cons_zero, List.set_cons_succ]
    refine wpAnyH_take (i := 11) (v := ?_) rfl (by kernel_rfl) (by kernel_rfl) (by kernel_rfl) (fun _ _ _ h => h) ?_ (by assumption) ?_
    rotate_left 1
    · first | (apply Or.inl; constructor; rfl; intro Wx hSw; obtain ⟨s1_, s2_, s3_, s4_, s5_, s6_⟩ := (hSe _).1 hSw; go_simp; try (with_reducible rfl)) | (apply Or.inr; constructor; rfl; rfl)
    try simp only [Act.put, List.getElem_toArray, List.getElem_cons_succ, List.getElem_cons_zero, List.setIfInBounds_toArray, List.set_cons_zero, List.set_cons_succ]
    refine wpAnyH_ready (rs := [12, 16]) (by kernel_rfl) (by simp) ?_
    refine AllReadyH.cons rfl (fun K1 hK => ?_) (AllReadyH.cons rfl (fun K1 hK => ?_) AllReadyH.nil)
    · go_simp
      have hp := H5.out.next (Keeps.refl [] W5).drew
      refine (HRW.out _ xb x G hp.ref).mono ?_
      rintro e w3 ⟨rfl, G1, hr3, hl3, hk3⟩
      have H3 := hid (hp.rstep hr3 hl3 hk3)
      refine hK.out _ _ (hSP H3.out (by simp)) (fun hHeld => ?_)
      clear hK K1 hp hr3 hl3 hk3
      refine wpAnyH_take (i := 13) (v := ?_) rfl (by kernel_rfl) (by kernel_rfl) (by kernel_rfl) (fun _ _ _ h => h) ?_ (by assumption) ?_
      rotate_left 1
      · first | (apply Or.inl; constructor; rfl; intro Wx hSw; obtain ⟨s1_, s2_, s3_, s4_, s5_, s6_⟩ := (hSe _).1 hSw; go_simp; try (with_reducible rfl)) | (apply Or.inr; constructor; rfl; rfl)
      try simp only [Act.put, List.getElem_toArray, List.getElem_cons_succ, List.getElem_cons_zero, List.setIfInBounds_toArray, List.set_cons_zero, List.set_cons_succ]
      refine wpAnyH_take (i := 14) (v := ?_) rfl (by kernel_rfl) (by kernel_rfl) (by kernel_rfl) (fun _ _ _ h => h) ?_ (by assumption) ?_
      rotate_left 1
      · first | (apply Or.inl; constructor; rfl; intro Wx hSw; obtain ⟨s1_, s2_, s3_, s4_, s5_, s6_⟩ := (hSe _).1 hSw; go_simp; try (with_reducible rfl)) | (apply Or.inr; constructor; rfl; rfl)
      try simp only [Act.put, List.getElem_toArray, List.getElem_cons_succ, List.getElem_cons_zero, List.setIfInBounds_toArray, List.set_cons_zero, List.set_cons_succ]
      refine wpAnyH_take (i := 15) (v := ?_) rfl (by kernel_rfl) (by kernel_rfl) (by kernel_rfl) (fun _ _ _ h => h) ?_ (by assumption) ?_
      rotate_left 1
      · first | (apply Or.inl; constructor; rfl; intro Wx hSw; obtain ⟨s1_, s2_, s3_, s4_, s5_, s6_⟩ := (hSe _).1 hSw; go_simp; try (with_reducible rfl)) | (apply Or.inr; constructor; rfl; rfl)
      try simp only [Act.put, List.getElem_toArray, List.getElem_cons_succ, List.getElem_cons_zero, List.setIfInBounds_toArray, List.set_cons_zero, List.set_cons_succ]
      refine wpAnyH_ready (rs := [16]) (by kernel_rfl) (by simp) ?_
      refine AllReadyH.cons rfl (fun K1 hK => ?_) AllReadyH.nil
      go_simp
      refine hK.out _ _ (hSP (H3.out.next ((Keeps.refl [] w3).alloc _)) (by simp)) (fun hHeld => ?_)
      clear hK K1
      try simp only [Act.put, List.getElem_toArray, List.getElem_cons_succ, List.getElem_cons_zero, List.setIfInBounds_toArray, List.set_cons_zero, List.set_cons_succ]
      refine wpAnyH_ready (rs := [17]) (by kernel_rfl) (by simp) ?_
      refine AllReadyH.cons rfl (fun K1 hK => ?_) AllReadyH.nil
      go_simp
      have H4 := hid (H3.out.put (w3.heap.size, 30, #[.int .i64 hi, .int .i64 hg]) ((Keeps.refl [] w3).alloc _) (Blk.new w3 _ _) (Nat.le_refl _))
      refine hK.out _ _ (hSP H4.out (by simp)) (fun hHeld => ?_)
      clear hK K1
      refine wpAnyH_take (i := 18) (v := ?_) rfl (by kernel_rfl) (by kernel_rfl) (by kernel_rfl) (fun _ _ _ h => h) ?_ (by assumption) ?_
      rotate_left 1
      · first | (apply Or.inl; constructor; rfl; intro Wx hSw; obtain ⟨s1_, s2_, s3_, s4_, s5_, s6_⟩ := (hSe _).1 hSw; go_simp; try (with_reducible rfl)) | (apply Or.inr; constructor; rfl; rfl)
      try simp only [Act.put, List.getElem_toArray, List.getElem_cons_succ, List.getElem_cons_zero, List.setIfInBounds_toArray, List.set_cons_zero, List.set_cons_succ]
      refine wpAnyH_done (by kernel_rfl) ?_ _
      have hgb8 : gb ≠ w3.heap.size := fun e => by have := H3.out.row.lt gb rfl; omega
      go_wp2_with fail
      go_meet
      case rel => exact ⟨_, _, rfl, rfl, hgb8, H4.out⟩
    · go_simp
      have H2a := hid (H5.out.put (W5.heap.size, 30, #[.int .i64 0, .int .i64 0]) ((Keeps.refl [] W5).drew.alloc _) (Blk.new W5.drew _ _) (Nat.le_refl _))
      refine hK.out _ _ (hSP H2a.out (by simp)) (fun hHeld => ?_)
      clear hK K1
      try simp only [Act.put, List.getElem_toArray, List.getElem_cons_succ, List.getElem_cons_zero, List.setIfInBounds_toArray, List.set_cons_zero, List.set_cons_succ]
      refine wpAnyH_ready (rs := [12]) (by kernel_rfl) (by simp) ?_
      refine AllReadyH.cons rfl (fun K1 hK => ?_) AllReadyH.nil
      go_simp
      refine (HRW.out _ xb x G H2a.out.ref).mono ?_
      rintro e w3 ⟨rfl, G1, hr3, hl3, hk3⟩
      have H3 := hid (H2a.out.rstep hr3 hl3 hk3)
      refine hK.out _ _ (hSP H3.out (by simp)) (fun hHeld => ?_)
      clear hK K1 hr3 hl3 hk3
      refine wpAnyH_take (i := 13) (v := ?_) rfl (by kernel_rfl) (by kernel_rfl) (by kernel_rfl) (fun _ _ _ h => h) ?_ (by assumption) ?_
      rotate_left 1
      · first | (apply Or.inl; constructor; rfl; intro Wx hSw; obtain ⟨s1_, s2_, s3_, s4_, s5_, s6_⟩ := (hSe _).1 hSw; go_simp; try (with_reducible rfl)) | (apply Or.inr; constructor; rfl; rfl)
      try simp only [Act.put, List.getElem_toArray, List.getElem_cons_succ, List.getElem_cons_zero, List.setIfInBounds_toArray, List.set_cons_zero, List.set_cons_succ]
      refine wpAnyH_take (i := 14) (v := ?_) rfl (by kernel_rfl) (by kernel_rfl) (by kernel_rfl) (fun _ _ _ h => h) ?_ (by assumption) ?_
      rotate_left 1
      · first | (apply Or.inl; constructor; rfl; intro Wx hSw; obtain ⟨s1_, s2_, s3_, s4_, s5_, s6_⟩ := (hSe _).1 hSw; go_simp; try (with_reducible rfl)) | (apply Or.inr; constructor; rfl; rfl)
      try simp only [Act.put, List.getElem_toArray, List.getElem_cons_succ, List.getElem_cons_zero, List.setIfInBounds_toArray, List.set_cons_zero, List.set_cons_succ]
      refine wpAnyH_take (i := 15) (v := ?_) rfl (by kernel_rfl) (by kernel_rfl) (by kernel_rfl) (fun _ _ _ h => h) ?_ (by assumption) ?_
      rotate_left 1
      · first | (apply Or.inl; constructor; rfl; intro Wx hSw; obtain ⟨s1_, s2_, s3_, s4_, s5_, s6_⟩ := (hSe _).1 hSw; go_simp; try (with_reducible rfl)) | (apply Or.inr; constructor; rfl; rfl)
      try simp only [Act.put, List.getElem_toArray, List.getElem_cons_succ, List.getElem_cons_zero, List.setIfInBounds_toArray, List.set_cons_zero, List.set_cons_succ]
      have hbz := (H3.out.aside (W5.heap.size, 30, #[.int .i64 0, .int .i64 0]) (by simp)).1
      have c0 := hbz.cell 0
      have c1 := hbz.cell 1
      have f0 := hbz.frozen 0
      have f1 := hbz.frozen 1
      simp at c0 c1
      refine wpAnyH_ready (rs := [17]) (by kernel_rfl) (by simp) ?_
      refine AllReadyH.cons rfl (fun K1 hK => ?_) AllReadyH.nil
      go_simp
      have hk4 : Keeps [W5.heap.size] w3 ((w3.setCell ⟨W5.heap.size, 0, none⟩ (.int .i64 hi)).setCell ⟨W5.heap.size, 1, none⟩ (.int .i64 hg)) := ((Keeps.refl _ w3).setCell (.inl (by simp)) _).setCell (.inl (by simp)) _
      have hgb8 : gb ≠ W5.heap.size := fun e => by have := H5.out.row.lt gb rfl; omega
      have H4 := hid (H3.out.far (A' := [(b6, 30, #[.int .i64 hi, .int .i64 hg]), (W.heap.size, actT, actA 1 cc kk r u b pv)]) (cs := #[.int .i64 0, .int .i64 0]) (t := 30) (cs' := #[.int .i64 hi, .int .i64 hg]) (g := W5.heap.size) (by simp) H5.out.kp.size (fun e => by have := H5.out.blk.lt; omega) (fun e => by have := H5.out.row.lt _ e; omega) (fun a ha => by
        simp only [List.mem_cons, List.not_mem_nil, or_false] at ha
        rcases ha with rfl | rfl
        · exact ⟨by simp, fun e => by have := (H5.out.aside (b6, 30, #[.int .i64 hi, .int .i64 hg]) (by simp)).1.lt; simp only at e this; omega⟩
        · exact ⟨by simp, fun e => by have := (H5.out.aside (W.heap.size, actT, actA 1 cc kk r u b pv) (by simp)).1.lt; simp only at e this; omega⟩) hk4 (pblk_eq ((hbz.set_ 0 (.int .i64 hi)).set_ 1 (.int .i64 hg)) (by simp)))
      refine hK.out _ _ (hSP H4.out (by simp)) (fun hHeld => ?_)
      clear hK K1 hk4 hbz
      refine wpAnyH_take (i := 18) (v := ?_) rfl (by kernel_rfl) (by kernel_rfl) (by kernel_rfl) (fun _ _ _ h => h) ?_ (by assumption) ?_
      rotate_left 1
      · first | (apply Or.inl; constructor; rfl; intro Wx hSw; obtain ⟨s1_, s2_, s3_, s4_, s5_, s6_⟩ := (hSe _).1 hSw; go_simp; try (with_reducible rfl)) | (apply Or.inr; constructor; rfl; rfl)
      try simp only [Act.put, List.getElem_toArray, List.getElem_cons_succ, List.getElem_cons_zero, List.setIfInBounds_toArray, List.set_cons_zero, List.set_cons_succ]
      refine wpAnyH_done (by kernel_rfl) ?_ _
      go_wp2_with fail
      go_meet
      case rel => exact ⟨_, _, rfl, rfl, hgb8, H4.out⟩
  case rest =>
  obtain ⟨b8, G1, rfl, rfl, hgb8, h6⟩ := hcut
  obtain ⟨W6, rfl⟩ : ∃ x, x = wc := ⟨wc, rfl⟩
  have H6 := hid h6
  clear h6 H5 H2 hSP hSe HPW HRW e1 e2 x0 x1 x3 x4 x5 y0 y1
  subst hm
  obtain ⟨i1', hi1, hz0, hz1, hz2⟩ := info_parts handle_info
  go_wp2_with fail
  go_cut [] (fun wx => ∃ gv1, PB w wx pb n xb x q F1 G1 N L1 ds1 N L1 ds1.length D1 gv1 (hs ++ [(hi, hg)]) [(b8, 30, #[.int .i64 hi, .int .i64 hg]), (b6, 30, #[.int .i64 hi, .int .i64 hg])])
  case first =>
    have e3 := H6.out.cells.2.2.1
    have z0 := (H6.out.aside (b8, 30, #[.int .i64 hi, .int .i64 hg]) (by simp)).1.cell 0
    have z1 := (H6.out.aside (b8, 30, #[.int .i64 hi, .int .i64 hg]) (by simp)).1.cell 1
    simp at z0 z1
    have hqo : q ∉ (Value.slice (some ⟨gb, go, none⟩) hs.length gcap).ownBlock.toList := fun hx => H6.out.row.blk_ne H6.out.blk (by decide) q (by simpa using hx) rfl
    have HQO := hid hqo
    have HGB6 := hid hgb6
    have HGB8 := hid hgb8
    clear hqo hgb6 hgb8
    obtain ⟨S3, hSe⟩ : ∃ S : World → Prop, ∀ w', S w' ↔ (w'.cell? ⟨b8, 0, none⟩ = some (.int .i64 hi) ∧ w'.cell? ⟨b8, 1, none⟩ = some (.int .i64 hg)) := ⟨_, fun _ => Iff.rfl⟩
    have hSk : ∀ w', Keeps [] W6 w' → S3 w' := fun w' hk => (hSe _).2 ⟨cell_keep hk (by simp) z0, cell_keep hk (by simp) z1⟩
    have H6a := hid ((H6.out.away (A' := [(b8, 30, #[.int .i64 hi, .int .i64 hg]), (b6, 30, #[.int .i64 hi, .int .i64 hg])]) (by simp)).next ((Keeps.refl [] W6).alloc (.cells #[.int .i64 hi, .int .i64 hg] 30)).drew)
    refine wp_region_held_drew (S := S3) (by kernel_rfl) (hSk _ (Keeps.refl [] W6).drew) (fun hHeld => ?_)
    refine wpAnyH_take (i := 0) (v := ?_) rfl (by kernel_rfl) (by kernel_rfl) (by kernel_rfl) (fun _ _ _ h => h) ?_ (by assumption) ?_
    rotate_left 1
    · first | (apply Or.inl; constructor; rfl; intro Wx hSw; obtain ⟨s1_, s2_⟩ := (hSe _).1 hSw; go_simp; try (with_reducible rfl)) | (apply Or.inr; constructor; rfl; rfl)
    try simp only [Act.put, List.getElem_toArray, List.getElem_cons_succ, List.getElem_cons_zero, List.setIfInBounds_toArray, List.set_cons_zero, List.set_cons_succ]
    refine wpAnyH_take (i := 1) (v := ?_) rfl (by kernel_rfl) (by kernel_rfl) (by kernel_rfl) (fun _ _ _ h => h) ?_ (by assumption) ?_
    rotate_left 1
    · first | (apply Or.inl; constructor; rfl; intro Wx hSw; obtain ⟨s1_, s2_⟩ := (hSe _).1 hSw; go_simp; try (with_reducible rfl)) | (apply Or.inr; constructor; rfl; rfl)
    try simp only [Act.put, List.getElem_toArray, List.getElem_cons_succ, List.getElem_cons_zero, List.setIfInBounds_toArray, List.set_cons_zero, List.set_cons_succ]
    refine wpAnyH_take (i := 2) (v := ?_) rfl (by kernel_rfl) (by kernel_rfl) (by kernel_rfl) (fun _ _ _ h => h) ?_ (by assumption) ?_
    rotate_left 1
    · first | (apply Or.inl; constructor; rfl; intro Wx hSw; obtain ⟨s1_, s2_⟩ := (hSe _).1 hSw; go_simp; try (with_reducible rfl)) | (apply Or.inr; constructor; rfl; rfl)
    try simp only [Act.put, List.getElem_toArray, List.getElem_cons_succ, List.getElem_cons_zero, List.setIfInBounds_toArray, List.set_cons_zero, List.set_cons_succ]
    refine wpAnyH_take (i := 3) (v := ?_) rfl (by kernel_rfl) (by kernel_rfl) (by kernel_rfl) (fun _ _ _ h => h) ?_ (by assumption) ?_
    rotate_left 1
    · first | (apply Or.inl; constructor; rfl; intro Wx hSw; obtain ⟨s1_, s2_⟩ := (hSe _).1 hSw; go_simp; try (with_reducible rfl)) | (apply Or.inr; constructor; rfl; rfl)
    try simp only [Act.put, List.getElem_toArray, List.getElem_cons_succ, List.getElem_cons_zero, List.setIfInBounds_toArray, List.set_cons_zero, List.set_cons_succ]
    refine wpAnyH_take (i := 5) (v := ?_) rfl (by kernel_rfl) (by kernel_rfl) (by kernel_rfl) (fun _ _ _ h => h) ?_ (by assumption) ?_
    rotate_left 1
    · first | (apply Or.inl; constructor; rfl; intro Wx hSw; obtain ⟨s1_, s2_⟩ := (hSe _).1 hSw; go_simp; try (with_reducible rfl)) | (apply Or.inr; constructor; rfl; rfl)
    try simp only [Act.put, List.getElem_toArray, List.getElem_cons_succ, List.getElem_cons_zero, List.setIfInBounds_toArray, List.set_cons_zero, List.set_cons_succ]
    refine wpAnyH_ready (rs := [4, 6]) (by kernel_rfl) (by simp) ?_
    refine AllReadyH.cons rfl (fun K1 hK => ?_) (AllReadyH.cons rfl (fun K1 hK => ?_) AllReadyH.nil)
    · go_simp
      refine hK.out _ _ (hSk _ (Keeps.refl [] W6).drew) (fun hHeld => ?_)
      clear hK K1
      try simp only [Act.put, List.getElem_toArray, List.getElem_cons_succ, List.getElem_cons_zero, List.setIfInBounds_toArray, List.set_cons_zero, List.set_cons_succ]
      refine wpAnyH_ready (rs := [6]) (by kernel_rfl) (by simp) ?_
      refine AllReadyH.cons rfl (fun K1 hK => ?_) AllReadyH.nil
      go_simp
      refine hK.out _ _ (hSk _ ((Keeps.refl [] W6).alloc _).drew) (fun hHeld => ?_)
      clear hK K1
      try simp only [Act.put, List.getElem_toArray, List.getElem_cons_succ, List.getElem_cons_zero, List.setIfInBounds_toArray, List.set_cons_zero, List.set_cons_succ]
      refine wpAnyH_ready (rs := [7]) (by kernel_rfl) (by simp) ?_
      refine AllReadyH.cons rfl (fun K1 hK => ?_) AllReadyH.nil
      refine step_append_row _ rfl (.tmp 66) (.tmp 68) _ rfl 30 i1' _ 2 16 Try.underlying28 hi1 hz0 hz1 hz2 rfl (by omega) (.slice (some ⟨gb, go, none⟩) hs.length gcap) hs.length _ (by simp only [Act.eval]; rfl) H6a.out.row (some ⟨W6.heap.size, 0, none⟩) 1 1 [.int .i64 hi, .int .i64 hg] (by simp only [Act.eval]; rfl) (reads_blk2 (Blk.drew (Blk.new W6 _ _))) (by simp [Value.oneCell']) (by simp only [maxLen]; omega) (by omega) ?_
      intro v5 w5 hv5 hk5 ho5
      obtain ⟨A5, q5, rfl, -⟩ := hv5.form
      have b5 := H6a.out.blk.keeps hk5 HQO.out
      have j2 := b5.cell 2
      have f2 := b5.frozen 2
      simp at j2
      have h7 := H6a.out.give hv5 hk5 ho5 (fun a ha => by
        have hne := fun t cs => ((H6a.out.aside a ha).1).ne_ (g' := q) (t' := t) (cs' := cs)
        simp only [List.mem_cons, List.not_mem_nil, or_false] at ha
        rcases ha with rfl | rfl
        · exact ⟨fun e => HGB8.out (by simpa [Value.ownBlock] using e), hne _ _ H6a.out.blk (show (30 : TypeId) ≠ 124 by decide)⟩
        · exact ⟨fun e => HGB6.out (by simpa [Value.ownBlock] using e), hne _ _ H6a.out.blk (show (30 : TypeId) ≠ 124 by decide)⟩)
      have H7 := hid h7
      have hb8 := (H6a.out.aside (b8, 30, #[.int .i64 hi, .int .i64 hg]) (by simp)).1.keeps hk5 (fun hx => HGB8.out (Eq.symm (by simpa [Value.ownBlock] using hx)))
      have hS5 : S3 w5 := (hSe _).2 ⟨by simpa using hb8.cell 0, by simpa using hb8.cell 1⟩
      have hb7 := (H7.out.aside (b8, 30, #[.int .i64 hi, .int .i64 hg]) (by simp)).1
      have hS7 : S3 (w5.setCell ⟨q, 2, none⟩ (.slice A5 (hs.length + 1) q5)) := (hSe _).2 ⟨by simpa using hb7.cell 0, by simpa using hb7.cell 1⟩
      refine hK.out _ _ hS5 (fun hHeld => ?_)
      clear hK K1 hv5 hk5 ho5 h7 hb8 hb7 b5
      refine wpAnyH_take (i := 8) (v := ?_) rfl (by kernel_rfl) (by kernel_rfl) (by kernel_rfl) (fun _ _ _ h => h) ?_ (by assumption) ?_
      rotate_left 1
      · first | (apply Or.inl; constructor; rfl; intro Wx hSw; obtain ⟨s1_, s2_⟩ := (hSe _).1 hSw; go_simp; try (with_reducible rfl)) | (apply Or.inr; constructor; rfl; rfl)
      try simp only [Act.put, List.getElem_toArray, List.getElem_cons_succ, List.getElem_cons_zero, List.setIfInBounds_toArray, List.set_cons_zero, List.set_cons_succ]
      refine wpAnyH_take (i := 9) (v := ?_) rfl (by kernel_rfl) (by kernel_rfl) (by kernel_rfl) (fun _ _ _ h => h) ?_ (by assumption) ?_
      rotate_left 1
      · first | (apply Or.inl; constructor; rfl; intro Wx hSw; obtain ⟨s1_, s2_⟩ := (hSe _).1 hSw; go_simp; try (with_reducible rfl)) | (apply Or.inr; constructor; rfl; rfl)
      try simp only [Act.put, List.getElem_toArray, List.getElem_cons_succ, List.getElem_cons_zero, List.setIfInBounds_toArray, List.set_cons_zero, List.set_cons_succ]
      refine wpAnyH_ready (rs := [10]) (by kernel_rfl) (by simp) ?_
      refine AllReadyH.cons rfl (fun K1 hK => ?_) AllReadyH.nil
      go_simp
      refine hK.out _ _ hS7 (fun hHeld => ?_)
      clear hK K1
      refine wpAnyH_done (by kernel_rfl) ?_ _
      go_wp2_with fail
      go_meet
      case rel => exact ⟨_, H7.out⟩
    · have e3a := fun o => alloc_cell e3 o
      go_simp
      refine hK.out _ _ (hSk _ ((Keeps.refl [] W6).alloc _).drew) (fun hHeld => ?_)
      clear hK K1
      try simp only [Act.put, List.getElem_toArray, List.getElem_cons_succ, List.getElem_cons_zero, List.setIfInBounds_toArray, List.set_cons_zero, List.set_cons_succ]
      refine wpAnyH_ready (rs := [4]) (by kernel_rfl) (by simp) ?_
      refine AllReadyH.cons rfl (fun K1 hK => ?_) AllReadyH.nil
      go_simp
      refine hK.out _ _ (hSk _ ((Keeps.refl [] W6).alloc _).drew) (fun hHeld => ?_)
      clear hK K1
      try simp only [Act.put, List.getElem_toArray, List.getElem_cons_succ, List.getElem_cons_zero, List.setIfInBounds_toArray, List.set_cons_zero, List.set_cons_succ]
      refine wpAnyH_ready (rs := [7]) (by kernel_rfl) (by simp) ?_
      refine AllReadyH.cons rfl (fun K1 hK => ?_) AllReadyH.nil
      refine step_append_row _ rfl (.tmp 66) (.tmp 68) _ rfl 30 i1' _ 2 16 Try.underlying28 hi1 hz0 hz1 hz2 rfl (by omega) (.slice (some ⟨gb, go, none⟩) hs.length gcap) hs.length _ (by simp only [Act.eval]; rfl) H6a.out.row (some ⟨W6.heap.size, 0, none⟩) 1 1 [.int .i64 hi, .int .i64 hg] (by simp only [Act.eval]; rfl) (reads_blk2 (Blk.drew (Blk.new W6 _ _))) (by simp [Value.oneCell']) (by simp only [maxLen]; omega) (by omega) ?_
      intro v5 w5 hv5 hk5 ho5
      obtain ⟨A5, q5, rfl, -⟩ := hv5.form
      have b5 := H6a.out.blk.keeps hk5 HQO.out
      have j2 := b5.cell 2
      have f2 := b5.frozen 2
      simp at j2
      have h7 := H6a.out.give hv5 hk5 ho5 (fun a ha => by
        have hne := fun t cs => ((H6a.out.aside a ha).1).ne_ (g' := q) (t' := t) (cs' := cs)
        simp only [List.mem_cons, List.not_mem_nil, or_false] at ha
        rcases ha with rfl | rfl
        · exact ⟨fun e => HGB8.out (by simpa [Value.ownBlock] using e), hne _ _ H6a.out.blk (show (30 : TypeId) ≠ 124 by decide)⟩
        · exact ⟨fun e => HGB6.out (by simpa [Value.ownBlock] using e), hne _ _ H6a.out.blk (show (30 : TypeId) ≠ 124 by decide)⟩)
      have H7 := hid h7
      have hb8 := (H6a.out.aside (b8, 30, #[.int .i64 hi, .int .i64 hg]) (by simp)).1.keeps hk5 (fun hx => HGB8.out (Eq.symm (by simpa [Value.ownBlock] using hx)))
      have hS5 : S3 w5 := (hSe _).2 ⟨by simpa using hb8.cell 0, by simpa using hb8.cell 1⟩
      have hb7 := (H7.out.aside (b8, 30, #[.int .i64 hi, .int .i64 hg]) (by simp)).1
      have hS7 : S3 (w5.setCell ⟨q, 2, none⟩ (.slice A5 (hs.length + 1) q5)) := (hSe _).2 ⟨by simpa using hb7.cell 0, by simpa using hb7.cell 1⟩
      refine hK.out _ _ hS5 (fun hHeld => ?_)
      clear hK K1 hv5 hk5 ho5 h7 hb8 hb7 b5
      refine wpAnyH_take (i := 8) (v := ?_) rfl (by kernel_rfl) (by kernel_rfl) (by kernel_rfl) (fun _ _ _ h => h) ?_ (by assumption) ?_
      rotate_left 1
      · first | (apply Or.inl; constructor; rfl; intro Wx hSw; obtain ⟨s1_, s2_⟩ := (hSe _).1 hSw; go_simp; try (with_reducible rfl)) | (apply Or.inr; constructor; rfl; rfl)
      try simp only [Act.put, List.getElem_toArray, List.getElem_cons_succ, List.getElem_cons_zero, List.setIfInBounds_toArray, List.set_cons_zero, List.set_cons_succ]
      refine wpAnyH_take (i := 9) (v := ?_) rfl (by kernel_rfl) (by kernel_rfl) (by kernel_rfl) (fun _ _ _ h => h) ?_ (by assumption) ?_
      rotate_left 1
      · first | (apply Or.inl; constructor; rfl; intro Wx hSw; obtain ⟨s1_, s2_⟩ := (hSe _).1 hSw; go_simp; try (with_reducible rfl)) | (apply Or.inr; constructor; rfl; rfl)
      try simp only [Act.put, List.getElem_toArray, List.getElem_cons_succ, List.getElem_cons_zero, List.setIfInBounds_toArray, List.set_cons_zero, List.set_cons_succ]
      refine wpAnyH_ready (rs := [10]) (by kernel_rfl) (by simp) ?_
      refine AllReadyH.cons rfl (fun K1 hK => ?_) AllReadyH.nil
      go_simp
      refine hK.out _ _ hS7 (fun hHeld => ?_)
      clear hK K1
      refine wpAnyH_done (by kernel_rfl) ?_ _
      go_wp2_with fail
      go_meet
      case rel => exact ⟨_, H7.out⟩
  case rest =>
  obtain ⟨gv1, h7⟩ := hcut
  obtain ⟨W7, rfl⟩ : ∃ x, x = wc := ⟨wc, rfl⟩
  have z0 := (h7.aside (b8, 30, #[.int .i64 hi, .int .i64 hg]) (by simp)).1.cell 0
  have z1 := (h7.aside (b8, 30, #[.int .i64 hi, .int .i64 hg]) (by simp)).1.cell 1
  have y0 := (h7.aside (b6, 30, #[.int .i64 hi, .int .i64 hg]) (by simp)).1.cell 0
  have y1 := (h7.aside (b6, 30, #[.int .i64 hi, .int .i64 hg]) (by simp)).1.cell 1
  simp at z0 z1 y0 y1
  have H7 := hid h7
  clear h7 H6
  have heq : ∀ (a b c d : Int) (w : World), (Op.equalIn 10000 30 (.agg #[.int .i64 a, .int .i64 b]) (.agg #[.int .i64 c, .int .i64 d])).run Try.prog w = .ok (a == c && b == d) w := run_eqH
  go_wp2_with fail
  rw [← HP.out]
  exact ⟨by simp, F1, G1, L1, ds1, D1, gv1, _, HW.out.1, HW.out.2.1, HW.out.2.2.1, HW.out.2.2.2, by simp, H7.out.away (A' := []) (by simp)⟩
end Go.Proofs.Ytkeffebcmajhmaa
