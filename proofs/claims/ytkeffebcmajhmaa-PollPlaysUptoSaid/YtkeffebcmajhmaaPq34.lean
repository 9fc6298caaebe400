/- PollPlays: asks and wire of any other kind. -/
import Derived.Test.YtkeffebcmajhmaaPq33
import Derived.Test.YtkeffebcmajhmaaPq32
namespace Go.Proofs.Ytkeffebcmajhmaa
open Go.RowKit
set_option linter.unusedVariables false
set_option linter.unusedSimpArgs false
set_option maxRecDepth 100000 in
set_option maxHeartbeats 8000000 in
theorem wire_no (w W : World) (pb n xb x q : Nat) (F G : List Nat) (N : NS) (L : List Slot) (ds : WL) (K : List Slot) (c : Int) (D : Nat → Wd) (gv : Value) (hs : List (Int × Int)) (kd cc kk : Int) (r u b : Bool) (pv : Value) (h : PB w W pb n xb x q F G N L ds N K c D gv hs [])
    (k5 : kd ≠ 5) (k6 : kd ≠ 6) (k7 : kd ≠ 7) (k8 : kd ≠ 8) (k9 : kd ≠ 9) (k10 : kd ≠ 10) (k11 : kd ≠ 11) (k12 : kd ≠ 12) (k13 : kd ≠ 13) (k14 : kd ≠ 14) (k15 : kd ≠ 15) :
    Calls Try.prog 68 #[.pointer (some ⟨q, 0, none⟩), .agg (actA kd cc kk r u b pv)] W fun e w' => e = .returned (.tuple #[]) ∧ ∃ F1 G1, PB w w' pb n xb x q F1 G1 (wireN kd N cc kk) L ds (wireN kd N cc kk) K c D gv hs [] := by
  have hw : wireN kd N cc kk = N := by simp [wireN, k5, k6, k7, k8, k9, k10, k11, k12, k13, k14, k15]
  rw [hw]
  have H := hid h
  have b5 : (kd == 5) = false := by simpa using k5
  have b6 : (kd == 6) = false := by simpa using k6
  have b7 : (kd == 7) = false := by simpa using k7
  have b8 : (kd == 8) = false := by simpa using k8
  have b9 : (kd == 9) = false := by simpa using k9
  have b10 : (kd == 10) = false := by simpa using k10
  have b11 : (kd == 11) = false := by simpa using k11
  have b12 : (kd == 12) = false := by simpa using k12
  have b13 : (kd == 13) = false := by simpa using k13
  have b14 : (kd == 14) = false := by simpa using k14
  have b15 : (kd == 15) = false := by simpa using k15
  clear h hw k5 k6 k7 k8 k9 k10 k11 k12 k13 k14 k15
  go_enter Try.func68, Try.ntmps68
  go_wp2_with fail
  first | (refine bodyPost_end (results_none rfl _ _ _) rfl ?_) | skip
  exact ⟨rfl, F, G, H.out.next (((Keeps.refl [] W).alloc _).alloc _)⟩
end Go.Proofs.Ytkeffebcmajhmaa
/- PollPlays: asks, kind kd. -/
namespace Go.Proofs.Ytkeffebcmajhmaa
open Go.RowKit
set_option linter.unusedVariables false
set_option linter.unusedSimpArgs false
set_option maxRecDepth 100000 in
set_option maxHeartbeats 16000000 in
theorem asks_kd (w W : World) (pb n xb x q : Nat) (F G : List Nat) (N : NS) (L : List Slot) (ds : WL) (D : Nat → Wd) (gv : Value) (hs : List (Int × Int)) (cc kk : Int) (r u b : Bool) (pv : Value) (h : PB w W pb n xb x q F G N L ds N L ds.length D gv hs []) (hlr : LR L ds D) (hh : 1 ≤ hs.length) (kd : Int) (k1 : kd ≠ 1) (k2 : kd ≠ 2) (k3 : kd ≠ 3) (k4 : kd ≠ 4) :
    Calls Try.prog 67 #[.pointer (some ⟨q, 0, none⟩), .agg (actA kd cc kk r u b pv)] W fun e w' => e = .returned (.bool true) ∧ ∃ F1 G1, PB w w' pb n xb x q F1 G1 N L ds N L ds.length D gv hs [] := by
  have h1 := h.put (W.heap.size, actT, actA kd cc kk r u b pv) ((Keeps.refl [] W).alloc (.cells (actA kd cc kk r u b pv) actT)) (Blk.new W _ _) (Nat.le_refl _)
  have H1 := hid h1
  have HLR := hid hlr
  clear h h1 hlr
  obtain ⟨m, hm⟩ : ∃ m, hs.length = m := ⟨_, rfl⟩
  have hm1 : 1 ≤ m := by omega
  obtain ⟨q1, hq1, -⟩ := and_maskP kk 65535 (by omega)
  obtain ⟨r1, hr1⟩ : ∃ r, q1 % m = r := ⟨_, rfl⟩
  have hr1m : r1 < m := by rw [← hr1]; exact Nat.mod_lt _ (by omega)
  have hmod1 : (bits BinOp.and IntKind.i64 kk 65535).tmod (m : Int) = (r1 : Int) := by
    have h1 : bits BinOp.and IntKind.i64 kk 65535 = (q1 : Int) := hq1
    rw [h1, ← hr1]
    exact (Int.ofNat_tmod q1 m).symm
  obtain ⟨GA, gcap, hgv, -⟩ := H1.out.row.form
  subst hgv
  obtain ⟨gb, go, hga, -, hgc⟩ := (H1.out.row.hsIn (F := []) (by simp)).at_ (by omega)
  subst hga
  obtain ⟨⟨i1, g1⟩, hh1⟩ : ∃ h, hs[r1]? = some h := ⟨hs[r1]'(by omega), List.getElem?_eq_getElem (by omega)⟩
  obtain ⟨d0, d1⟩ := hgc r1 _ hh1
  simp only at d0 d1
  have hr1i : (r1 : Int) < m := by omega
  have hmi : (0 : Int) < m := by omega
  have hmz : ¬ m = 0 := by omega
  obtain ⟨e1, e2, e3, e4, e5⟩ := H1.out.cells
  rw [hm] at e3
  obtain ⟨W1, hW1⟩ : ∃ x, W.alloc (.cells (actA kd cc kk r u b pv) actT) = x := ⟨_, rfl⟩
  obtain ⟨POST, hPOST⟩ : ∃ P, (fun (e : Ending) (w' : World) => e = .returned (.bool true) ∧ ∃ F1 G1, PB w w' pb n xb x q F1 G1 N L ds N L ds.length D (.slice (some ⟨gb, go, none⟩) hs.length gcap) hs []) = P := ⟨_, rfl⟩
  rw [hPOST]
  have HP := hid hPOST
  clear hPOST hgc hq1 hr1
  go_enter Try.func67, Try.ntmps67
  go_wp2_with fail
  rw [hW1] at H1 e1 e2 e3 e4 e5 d0 d1
  have x2 := (H1.out.aside (W.heap.size, actT, actA kd cc kk r u b pv) (by simp)).1.cell 2
  simp at x2
  clear hW1
  obtain ⟨S, hSe⟩ : ∃ S : World → Prop, ∀ w', S w' ↔ (w'.cell? ⟨q, 2, none⟩ = some (.slice (some ⟨gb, go, none⟩) m gcap) ∧ w'.cell? ⟨W.heap.size, 2, none⟩ = some (.int .i64 kk) ∧ w'.cell? ⟨gb, go + r1 * 2, none⟩ = some (.int .i64 i1) ∧ w'.cell? ⟨gb, go + r1 * 2 + 1, none⟩ = some (.int .i64 g1)) := ⟨_, fun _ => Iff.rfl⟩
  have hSk : ∀ w', Keeps [] W1 w' → S w' := fun w' hk => (hSe _).2 ⟨cell_keep hk (by simp) e3, cell_keep hk (by simp) x2, cell_keep hk (by simp) d0, cell_keep hk (by simp) d1⟩
  refine wp_region_held_drew (S := S) (by kernel_rfl) (hSk _ (Keeps.refl [] W1).drew) (fun hHeld => ?_)
  refine wpAnyH_take (i := 0) (v := ?_) rfl (by kernel_rfl) (by kernel_rfl) (by kernel_rfl) (fun _ _ _ h => h) ?_ (by assumption) ?_
  rotate_left 1
  · first | (apply Or.inl; constructor; rfl; intro Wx hSw; obtain ⟨s1_, s2_, s3_, s4_⟩ := (hSe _).1 hSw; go_simp; try (with_reducible rfl)) | (apply Or.inr; constructor; rfl; rfl)
  try simp only [Act.put, List.getElem_toArray, List.getElem_cons_succ, List.getElem_cons_zero, List.setIfInBounds_toArray, List.set_cons_zero, List.set_cons_succ]
  refine wpAnyH_take (i := 1) (v := ?_) rfl (by kernel_rfl) (by kernel_rfl) (by kernel_rfl) (fun _ _ _ h => h) ?_ (by assumption) ?_
  rotate_left 1
  · first | (apply Or.inl; constructor; rfl; intro Wx hSw; obtain ⟨s1_, s2_, s3_, s4_⟩ := (hSe _).1 hSw; go_simp; try (with_reducible rfl)) | (apply Or.inr; constructor; rfl; rfl)
  try simp only [Act.put, List.getElem_toArray, List.getElem_cons_succ, List.getElem_cons_zero, List.setIfInBounds_toArray, List.set_cons_zero, List.set_cons_succ]
  refine wpAnyH_take (i := 2) (v := ?_) rfl (by kernel_rfl) (by kernel_rfl) (by kernel_rfl) (fun _ _ _ h => h) ?_ (by assumption) ?_
  rotate_left 1
  · first | (apply Or.inl; constructor; rfl; intro Wx hSw; obtain ⟨s1_, s2_, s3_, s4_⟩ := (hSe _).1 hSw; go_simp; try (with_reducible rfl)) | (apply Or.inr; constructor; rfl; rfl)
  try simp only [Act.put, List.getElem_toArray, List.getElem_cons_succ, List.getElem_cons_zero, List.setIfInBounds_toArray, List.set_cons_zero, List.set_cons_succ]
  refine wpAnyH_take (i := 3) (v := ?_) rfl (by kernel_rfl) (by kernel_rfl) (by kernel_rfl) (fun _ _ _ h => h) ?_ (by assumption) ?_
  rotate_left 1
  · first | (apply Or.inl; constructor; rfl; intro Wx hSw; obtain ⟨s1_, s2_, s3_, s4_⟩ := (hSe _).1 hSw; go_simp; try (with_reducible rfl)) | (apply Or.inr; constructor; rfl; rfl)
  try simp only [Act.put, List.getElem_toArray, List.getElem_cons_succ, List.getElem_cons_zero, List.setIfInBounds_toArray, List.set_cons_zero, List.set_cons_succ]
  refine wpAnyH_take (i := 4) (v := ?_) rfl (by kernel_rfl) (by kernel_rfl) (by kernel_rfl) (fun _ _ _ h => h) ?_ (by assumption) ?_
  rotate_left 1
  · first | (apply Or.inl; constructor; rfl; intro Wx hSw; obtain ⟨s1_, s2_, s3_, s4_⟩ := (hSe _).1 hSw; go_simp; try (with_reducible rfl)) | (apply Or.inr; constructor; rfl; rfl)
  try simp only [Act.put, List.getElem_toArray, List.getElem_cons_succ, List.getElem_cons_zero, List.setIfInBounds_toArray, List.set_cons_zero, List.set_cons_succ]
  refine wpAnyH_take (i := 5) (v := ?_) rfl (by kernel_rfl) (by kernel_rfl) (by kernel_rfl) (fun _ _ _ h => h) ?_ (by assumption) ?_
  rotate_left 1
  · first | (apply Or.inl; constructor; rfl; intro Wx hSw; obtain ⟨s1_, s2_, s3_, s4_⟩ := (hSe _).1 hSw; go_simp; try (with_reducible rfl)) | (apply Or.inr; constructor; rfl; rfl)
  try simp only [Act.put, List.getElem_toArray, List.getElem_cons_succ, List.getElem_cons_zero, List.setIfInBounds_toArray, List.set_cons_zero, List.set_cons_succ]
  refine wpAnyH_take (i := 6) (v := ?_) rfl (by kernel_rfl) (by kernel_rfl) (by kernel_rfl) (fun _ _ _ h => h) ?_ (by assumption) ?_
  rotate_left 1
  · first | (apply Or.inl; constructor; rfl; intro Wx hSw; obtain ⟨s1_, s2_, s3_, s4_⟩ := (hSe _).1 hSw; go_simp; try (with_reducible rfl)) | (apply Or.inr; constructor; rfl; rfl)
  try simp only [Act.put, List.getElem_toArray, List.getElem_cons_succ, List.getElem_cons_zero, List.setIfInBounds_toArray, List.set_cons_zero, List.set_cons_succ]
  refine wpAnyH_take (i := 7) (v := ?_) rfl (by kernel_rfl) (by kernel_rfl) (by kernel_rfl) (fun _ _ _ h => h) ?_ (by assumption) ?_
  rotate_left 1
  · first | (apply Or.inl; constructor; rfl; intro Wx hSw; obtain ⟨s1_, s2_, s3_, s4_⟩ := (hSe _).1 hSw; go_simp; try (with_reducible rfl)) | (apply Or.inr; constructor; rfl; rfl)
  try simp only [Act.put, List.getElem_toArray, List.getElem_cons_succ, List.getElem_cons_zero, List.setIfInBounds_toArray, List.set_cons_zero, List.set_cons_succ]
  refine wpAnyH_take (i := 8) (v := ?_) rfl (by kernel_rfl) (by kernel_rfl) (by kernel_rfl) (fun _ _ _ h => h) ?_ (by assumption) ?_
  rotate_left 1
  · first | (apply Or.inl; constructor; rfl; intro Wx hSw; obtain ⟨s1_, s2_, s3_, s4_⟩ := (hSe _).1 hSw; go_simp; try (with_reducible rfl)) | (apply Or.inr; constructor; rfl; rfl)
  try simp only [Act.put, List.getElem_toArray, List.getElem_cons_succ, List.getElem_cons_zero, List.setIfInBounds_toArray, List.set_cons_zero, List.set_cons_succ]
  refine wpAnyH_take (i := 9) (v := ?_) rfl (by kernel_rfl) (by kernel_rfl) (by kernel_rfl) (fun _ _ _ h => h) ?_ (by assumption) ?_
  rotate_left 1
  · first | (apply Or.inl; constructor; rfl; intro Wx hSw; obtain ⟨s1_, s2_, s3_, s4_⟩ := (hSe _).1 hSw; go_simp; try (with_reducible rfl)) | (apply Or.inr; constructor; rfl; rfl)
  try simp only [Act.put, List.getElem_toArray, List.getElem_cons_succ, List.getElem_cons_zero, List.setIfInBounds_toArray, List.set_cons_zero, List.set_cons_succ]
  refine wpAnyH_take (i := 10) (v := ?_) rfl (by kernel_rfl) (by kernel_rfl) (by kernel_rfl) (fun _ _ _ h => h) ?_ (by assumption) ?_
  rotate_left 1
  · first | (apply Or.inl; constructor; rfl; intro Wx hSw; obtain ⟨s1_, s2_, s3_, s4_⟩ := (hSe _).1 hSw; go_simp; try (with_reducible rfl)) | (apply Or.inr; constructor; rfl; rfl)
  try simp only [Act.put, List.getElem_toArray, List.getElem_cons_succ, List.getElem_cons_zero, List.setIfInBounds_toArray, List.set_cons_zero, List.set_cons_succ]
  refine wpAnyH_take (i := 11) (v := ?_) rfl (by kernel_rfl) (by kernel_rfl) (by kernel_rfl) (fun _ _ _ h => h) ?_ (by assumption) ?_
  rotate_left 1
  · first | (apply Or.inl; constructor; rfl; intro Wx hSw; obtain ⟨s1_, s2_, s3_, s4_⟩ := (hSe _).1 hSw; go_simp; try (with_reducible rfl)) | (apply Or.inr; constructor; rfl; rfl)
  try simp only [Act.put, List.getElem_toArray, List.getElem_cons_succ, List.getElem_cons_zero, List.setIfInBounds_toArray, List.set_cons_zero, List.set_cons_succ]
  refine wpAnyH_take (i := 12) (v := ?_) rfl (by kernel_rfl) (by kernel_rfl) (by kernel_rfl) (fun _ _ _ h => h) ?_ (by assumption) ?_
  rotate_left 1
  · first | (apply Or.inl; constructor; rfl; intro Wx hSw; obtain ⟨s1_, s2_, s3_, s4_⟩ := (hSe _).1 hSw; go_simp; try (with_reducible rfl)) | (apply Or.inr; constructor; rfl; rfl)
  try simp only [Act.put, List.getElem_toArray, List.getElem_cons_succ, List.getElem_cons_zero, List.setIfInBounds_toArray, List.set_cons_zero, List.set_cons_succ]
  refine wpAnyH_take (i := 13) (v := ?_) rfl (by kernel_rfl) (by kernel_rfl) (by kernel_rfl) (fun _ _ _ h => h) ?_ (by assumption) ?_
  rotate_left 1
  · first | (apply Or.inl; constructor; rfl; intro Wx hSw; obtain ⟨s1_, s2_, s3_, s4_⟩ := (hSe _).1 hSw; go_simp; try (with_reducible rfl)) | (apply Or.inr; constructor; rfl; rfl)
  try simp only [Act.put, List.getElem_toArray, List.getElem_cons_succ, List.getElem_cons_zero, List.setIfInBounds_toArray, List.set_cons_zero, List.set_cons_succ]
  refine wpAnyH_take (i := 14) (v := ?_) rfl (by kernel_rfl) (by kernel_rfl) (by kernel_rfl) (fun _ _ _ h => h) ?_ (by assumption) ?_
  rotate_left 1
  · first | (apply Or.inl; constructor; rfl; intro Wx hSw; obtain ⟨s1_, s2_, s3_, s4_⟩ := (hSe _).1 hSw; go_simp; try (with_reducible rfl)) | (apply Or.inr; constructor; rfl; rfl)
  try simp only [Act.put, List.getElem_toArray, List.getElem_cons_succ, List.getElem_cons_zero, List.setIfInBounds_toArray, List.set_cons_zero, List.set_cons_succ]
  refine wpAnyH_ready (rs := [15]) (by kernel_rfl) (by simp) ?_
  refine AllReadyH.cons rfl (fun K1 hK => ?_) AllReadyH.nil
  go_simp
  refine hK.out _ _ (hSk _ ((Keeps.refl [] W1).drew.alloc _)) (fun hHeld => ?_)
  clear hK K1
  try simp only [Act.put, List.getElem_toArray, List.getElem_cons_succ, List.getElem_cons_zero, List.setIfInBounds_toArray, List.set_cons_zero, List.set_cons_succ]
  refine wpAnyH_ready (rs := [16]) (by kernel_rfl) (by simp) ?_
  refine AllReadyH.cons rfl (fun K1 hK => ?_) AllReadyH.nil
  go_simp
  have hk2 : Keeps [] W1 (W1.alloc (.cells #[.int .i64 i1, .int .i64 g1] 30)).drew := ((Keeps.refl [] W1).alloc _).drew
  refine hK.out _ _ (hSk _ hk2) (fun hHeld => ?_)
  clear hK K1
  refine wpAnyH_done (by kernel_rfl) ?_ _
  have hb5 : Blk (W1.alloc (.cells #[.int .i64 i1, .int .i64 g1] 30)).drew W1.heap.size 30 #[.int .i64 i1, .int .i64 g1] := Blk.drew (Blk.new W1 _ _)
  have h2 := H1.out.put (W1.heap.size, 30, #[.int .i64 i1, .int .i64 g1]) hk2 hb5 (Nat.le_refl _)
  have H2 := hid h2
  obtain ⟨a5, ha5⟩ : ∃ a, W1.heap.size = a := ⟨_, rfl⟩
  rw [ha5] at H2 ⊢
  obtain ⟨W2, hW2⟩ : ∃ x, (W1.alloc (.cells #[.int .i64 i1, .int .i64 g1] 30)).drew = x := ⟨_, rfl⟩
  rw [hW2] at H2 ⊢
  clear h2 hb5 hk2 hW2 hSk hSe hHeld ha5 e1 e2 e3 e4 e5 d0 d1 x2 H1 hmod1 hr1i hmi hmz
  have e1 := H2.out.cells.1
  have e2 := H2.out.cells.2.1
  have x0 := (H2.out.aside (W.heap.size, actT, actA kd cc kk r u b pv) (by simp)).1.cell 0
  have x3 := (H2.out.aside (W.heap.size, actT, actA kd cc kk r u b pv) (by simp)).1.cell 3
  have x4 := (H2.out.aside (W.heap.size, actT, actA kd cc kk r u b pv) (by simp)).1.cell 4
  have y0 := (H2.out.aside (a5, 30, #[.int .i64 i1, .int .i64 g1]) (by simp)).1.cell 0
  have y1 := (H2.out.aside (a5, 30, #[.int .i64 i1, .int .i64 g1]) (by simp)).1.cell 1
  simp at x0 x3 x4 y0 y1
  have b1 : (kd == 1) = false := by simpa using k1
  have b2 : (kd == 2) = false := by simpa using k2
  have b3 : (kd == 3) = false := by simpa using k3
  have b4 : (kd == 4) = false := by simpa using k4
  clear k1 k2 k3 k4
  go_wp2_with fail
  rw [← HP.out]
  exact ⟨rfl, F, G, H2.out.away (A' := []) (by simp)⟩
end Go.Proofs.Ytkeffebcmajhmaa
/- PollPlays: Watch, in both. -/
namespace Go.Proofs.Ytkeffebcmajhmaa
open Go.RowKit
set_option linter.unusedVariables false
set_option linter.unusedSimpArgs false
def PWatch (N : NS) (L : List Slot) (ds : WL) (id : Int) (rd wr ed : Bool) (hi hg er : Int) (L1 : List Slot) (ds1 : WL) : Prop :=
  ∀ (W : World) (pb n : Nat) (F : List Nat), PRep W pb n F N L ds → Calls Try.prog 50 #[.pointer (some ⟨pb, 0, none⟩), .int .i64 id, .bool rd, .bool wr, .bool ed] W fun e w' => e = .returned (.tuple #[.agg #[.int .i64 hi, .int .i64 hg], .int .i64 er]) ∧ ∃ F1, PRep w' pb n F1 N L1 ds1 ∧ LaterF F W F1 ∧ Keeps F W w'
def RWatch (N : NS) (L : List Slot) (c : Int) (D : Nat → Wd) (id : Int) (rd wr ed : Bool) (hi hg er : Int) (L1 : List Slot) (c1 : Int) (D1 : Nat → Wd) : Prop :=
  ∀ (W : World) (xb x : Nat) (G : List Nat), RPRep W xb x G N L c D → Calls Try.prog 98 #[.pointer (some ⟨xb, 0, none⟩), .int .i64 id, .bool rd, .bool wr, .bool ed] W fun e w' => e = .returned (.tuple #[.agg #[.int .i64 hi, .int .i64 hg], .int .i64 er]) ∧ ∃ G1, RPRep w' xb x G1 N L1 c1 D1 ∧ LaterF G W G1 ∧ Keeps G W w'
theorem watch_both {N : NS} {L : List Slot} {ds : WL} {D : Nat → Wd} (hlr : LR L ds D) (id : Int) (rd wr ed : Bool) (k : Nat) (hk : k ≤ 1000) (hg : ∀ d ∈ L, 0 ≤ d.1 ∧ d.1 ≤ k) (hL : L.length ≤ k) (hd : ds.length ≤ k) :
    ∃ hi hg er L1 ds1 D1, LR L1 ds1 D1 ∧ (∀ d ∈ L1, 0 ≤ d.1 ∧ d.1 ≤ ((k + 1 : Nat) : Int)) ∧ L1.length ≤ k + 1 ∧ ds1.length ≤ k + 1 ∧ PWatch N L ds id rd wr ed hi hg er L1 ds1 ∧ RWatch N L ds.length D id rd wr ed hi hg er L1 ds1.length D1 := by
  have hg' : ∀ d ∈ L, 0 ≤ d.1 ∧ d.1 ≤ 1099511627776 := fun d hx => ⟨(hg d hx).1, by have := (hg d hx).2; omega⟩
  have hg1 : ∀ d ∈ L, 0 ≤ d.1 ∧ d.1 ≤ ((k + 1 : Nat) : Int) := fun d hx => ⟨(hg d hx).1, by have := (hg d hx).2; omega⟩
  by_cases hbad : id ≠ -1 ∧ (stateN N id).2.1 = false
  · refine ⟨0, 0, 2, L, ds, D, hlr, hg1, by omega, by omega, fun W pb n F h => ?_, fun W xb x G h => ?_⟩
    · refine (watch_bad pb n F N L ds id rd wr ed W h hbad.1 hbad.2).mono ?_
      rintro e w' ⟨rfl, hk⟩
      exact ⟨rfl, F, h.keeps hk (by simp), fun j hj => .inl hj, hk.mono (by simp)⟩
    · refine (rwatch_bad xb x G N L ds.length D id rd wr ed W h hbad.1 hbad.2).mono ?_
      rintro e w' ⟨rfl, hk⟩
      exact ⟨rfl, G, h.keeps hk (by simp), fun j hj => .inl hj, hk.mono (by simp)⟩
  · have hok : id = -1 ∨ (stateN N id).2.1 = true := by
      by_cases h1 : id = -1
      · exact .inl h1
      · right
        cases hs : (stateN N id).2.1 with
        | true => rfl
        | false => exact absurd ⟨h1, hs⟩ hbad
    by_cases hdup : ∃ x ∈ ds, x.2.id = id
    · refine ⟨0, 0, 11, L, ds, D, hlr, hg1, by omega, by omega, fun W pb n F h => ?_, fun W xb x G h => ?_⟩
      · refine (watch_any pb n F N L ds id rd wr ed W h hok hg' (by omega) (by omega)).mono ?_
        rintro e w' (⟨-, rfl, hk⟩ | ⟨hno, -⟩)
        · exact ⟨rfl, F, h.keeps hk (by simp), fun j hj => .inl hj, hk.mono (by simp)⟩
        · obtain ⟨y, hy, he⟩ := hdup
          exact absurd he (hno y hy)
      · refine (rwatch_any xb x G N L ds.length D id rd wr ed W h hok hg' (by omega) (by omega) (by omega)).mono ?_
        rintro e w' (⟨-, rfl, hk⟩ | ⟨hno, -⟩)
        · exact ⟨rfl, G, h.keeps hk (by simp), fun j hj => .inl hj, hk.mono (by simp)⟩
        · obtain ⟨j, g, hj⟩ := (lr_dup hlr id).1 hdup
          exact absurd rfl (hno j g id hj)
    · have hgp := gens_put (L := L) id hg
      refine ⟨(freeAt L : Nat), putG L, 0, putL L id, _, _, lr_watch hlr id rd wr ed, hgp.1, by have := hgp.2; omega, by simp; omega, fun W pb n F h => ?_, fun W xb x G h => ?_⟩
      · refine (watch_any pb n F N L ds id rd wr ed W h hok hg' (by omega) (by omega)).mono ?_
        rintro e w' (⟨hy, -⟩ | ⟨-, rfl, ⟨F1, h1, h2⟩, hk⟩)
        · exact absurd hy hdup
        · exact ⟨rfl, F1, h1, h2, hk⟩
      · refine (rwatch_any xb x G N L ds.length D id rd wr ed W h hok hg' (by omega) (by omega) (by omega)).mono ?_
        rintro e w' (⟨⟨j, g, hj⟩, -⟩ | ⟨-, rfl, ⟨F1, h1, h2⟩, hk⟩)
        · exact absurd ((lr_dup hlr id).2 ⟨j, g, hj⟩) hdup
        · exact ⟨rfl, F1, by simpa using h1, h2, hk⟩
end Go.Proofs.Ytkeffebcmajhmaa
/- PollPlays: an aside block has changed. -/
namespace Go.Proofs.Ytkeffebcmajhmaa
open Go.RowKit
set_option linter.unusedVariables false
set_option linter.unusedSimpArgs false
theorem PB.far {w W W' : World} {pb n xb x q : Nat} {F G : List Nat} {N : NS} {L : List Slot} {ds : WL} {M : NS} {K : List Slot} {c : Int} {D : Nat → Wd} {gv : Value} {hs : List (Int × Int)} {A A' : AL} {g : Nat} {t : TypeId} {cs cs' : Array Value}
    (h : PB w W pb n xb x q F G N L ds M K c D gv hs A) (ha : (g, t, cs) ∈ A) (hg : w.heap.size ≤ g) (hq : g ≠ q) (ho : gv.ownBlock ≠ some g) (hA : ∀ a ∈ A', a ∈ A ∧ a.1 ≠ g) (hk : Keeps [g] W W') (hb : Blk W' g t cs') : PB w W' pb n xb x q F G N L ds M K c D gv hs ((g, t, cs') :: A') := by
  obtain ⟨-, hF, hG⟩ := h.aside _ ha
  simp only at hF hG
  refine ⟨h.prog.keeps hk (by simpa using hF), h.ref.keeps hk (by simpa using hG), h.fl, h.gl, h.fg, h.kp.trans hk (fun k hx => .inr (by simp at hx; omega)), h.blk.keeps hk (by simpa using Ne.symm hq), h.row.keeps hk (fun j hj hx => ho (by simp at hx; subst hx; exact hj)), h.ql, h.qf, h.qg, h.ol, fun a ha' => ?_⟩
  rcases List.mem_cons.1 ha' with rfl | ha'
  · exact ⟨hb, hF, hG⟩
  · obtain ⟨h1, h2⟩ := hA a ha'
    exact ⟨(h.aside a h1).1.keeps hk (by simpa using h2), (h.aside a h1).2⟩
/-- a Handle was given. -/
theorem PB.give {w W W' : World} {pb n xb x q : Nat} {F G : List Nat} {N : NS} {L : List Slot} {ds : WL} {M : NS} {K : List Slot} {c : Int} {D : Nat → Wd} {gv gv1 : Value} {hs : List (Int × Int)} {A : AL} {i g : Int}
    (h : PB w W pb n xb x q F G N L ds M K c D gv hs A) (hrow : Row W' 30 2 gv1 (hs.length + 1) (handlesV hs ++ [.int .i64 i, .int .i64 g])) (hk : Keeps gv.ownBlock.toList W W') (ho : ∀ k, gv1.ownBlock = some k → gv.ownBlock = some k ∨ W.heap.size ≤ k) (hA : ∀ a ∈ A, gv.ownBlock ≠ some a.1 ∧ a.1 ≠ q) :
    PB w (W'.setCell ⟨q, 2, none⟩ gv1) pb n xb x q F G N L ds M K c D gv1 (hs ++ [(i, g)]) A := by
  have ho1 : ∀ k ∈ gv.ownBlock.toList, w.heap.size ≤ k ∧ k ∉ F ∧ k ∉ G := fun k hx => h.ol k (by simpa using hx)
  have hqo : q ∉ gv.ownBlock.toList := fun hx => h.row.blk_ne h.blk (by decide) q (by simpa using hx) rfl
  have hk2 : Keeps [q] W' (W'.setCell ⟨q, 2, none⟩ gv1) := (Keeps.refl _ W').setCell (.inl (by simp)) _
  have hb := h.blk.keeps hk hqo
  have hl : (hs ++ [(i, g)]).length = hs.length + 1 := by simp
  have hv : handlesV (hs ++ [(i, g)]) = handlesV hs ++ [.int .i64 i, .int .i64 g] := by simp [handlesV]
  refine ⟨(h.prog.keeps hk (fun k hx => (ho1 k hx).2.1)).keeps hk2 (by simpa using h.qf), (h.ref.keeps hk (fun k hx => (ho1 k hx).2.2)).keeps hk2 (by simpa using h.qg), h.fl, h.gl, h.fg, (h.kp.trans hk (fun k hx => .inr (ho1 k hx).1)).trans hk2 (fun k hx => .inr (by simp at hx; rw [hx]; exact h.ql)), pblk_eq (hb.set_ 2 gv1) (by simp), ?_, h.ql, h.qf, h.qg, fun j hj => ?_, fun a ha => ?_⟩
  · rw [hl, hv]
    exact hrow.far (fun k hx => hrow.blk_ne hb (by decide) k hx) _
  · rcases ho j hj with e | e
    · exact h.ol j e
    · exact ⟨by have := h.kp.size; omega, fun hx => by have := h.prog.flt _ hx; omega, fun hx => by have := h.ref.flt _ hx; omega⟩
  · obtain ⟨e1, e2⟩ := hA a ha
    obtain ⟨b1, b2⟩ := h.aside a ha
    exact ⟨(b1.keeps hk (fun hx => e1 (by simpa using hx))).far (by simpa using e2) _, b2⟩
end Go.Proofs.Ytkeffebcmajhmaa
