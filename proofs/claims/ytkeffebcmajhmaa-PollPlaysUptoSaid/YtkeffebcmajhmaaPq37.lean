/- PollPlays: asks, kind 4. -/
import Derived.Test.YtkeffebcmajhmaaPq33
import Derived.Test.YtkeffebcmajhmaaPq36
import Derived.Test.YtkeffebcmajhmaaPq32
namespace Go.Proofs.Ytkeffebcmajhmaa
open Go.RowKit
set_option linter.unusedVariables false
set_option linter.unusedSimpArgs false
set_option maxRecDepth 100000 in
set_option maxHeartbeats 16000000 in
theorem asks_4 (w W : World) (pb n xb x q : Nat) (F G : List Nat) (N : NS) (L : List Slot) (ds : WL) (D : Nat → Wd) (gv : Value) (hs : List (Int × Int)) (cc kk : Int) (r u b : Bool) (pv : Value) (h : PB w W pb n xb x q F G N L ds N L ds.length D gv hs []) (hlr : LR L ds D) (hh : 1 ≤ hs.length) (ps : List Int) (hpv : ∀ F, (∀ k ∈ F, w.heap.size ≤ k) → CellsIn w F pv (ps.map (.int .i64))) (hps : ps.length ≤ 1099511627776) (hL : L.length ≤ 1099511627776) (hmk : MarkOk N) :
    Calls Try.prog 67 #[.pointer (some ⟨q, 0, none⟩), .agg (actA 4 cc kk r u b pv)] W fun e w' => e = .returned (.bool true) ∧ ∃ F1 G1 ds' D', LR L ds' D' ∧ ds'.length = ds.length ∧ PB w w' pb n xb x q F1 G1 N L ds' N L ds.length D' gv hs [] := by
  have h1 := h.put (W.heap.size, actT, actA 4 cc kk r u b pv) ((Keeps.refl [] W).alloc (.cells (actA 4 cc kk r u b pv) actT)) (Blk.new W _ _) (Nat.le_refl _)
  have H1 := hid h1
  have HLR := hid hlr
  clear h h1 hlr
  obtain ⟨m, hm⟩ : ∃ m, hs.length = m := ⟨_, rfl⟩
  have hm1 : 1 ≤ m := by omega
  obtain ⟨q1, hq1, -⟩ := and_maskP kk 65535 (by omega)
  obtain ⟨r1, hr1⟩ : ∃ r, q1 % m = r := ⟨_, rfl⟩
  have hr1m : r1 < m := by rw [← hr1]; exact Nat.mod_lt _ (by omega)
  have hmod1 : (bits BinOp.and IntKind.i64 kk 65535).tmod (m : Int) = (r1 : Int) := by
    have h1 : bits BinOp.and IntKind.i64 kk 65535 = (q1 : Int) := hq1
    rw [h1, ← hr1]
    exact (Int.ofNat_tmod q1 m).symm
  obtain ⟨GA, gcap, hgv, -⟩ := H1.out.row.form
  subst hgv
  obtain ⟨gb, go, hga, -, hgc⟩ := (H1.out.row.hsIn (F := []) (by simp)).at_ (by omega)
  subst hga
  obtain ⟨⟨i1, g1⟩, hh1⟩ : ∃ h, hs[r1]? = some h := ⟨hs[r1]'(by omega), List.getElem?_eq_getElem (by omega)⟩
  obtain ⟨d0, d1⟩ := hgc r1 _ hh1
  simp only at d0 d1
  have hr1i : (r1 : Int) < m := by omega
  have hmi : (0 : Int) < m := by omega
  have hmz : ¬ m = 0 := by omega
  obtain ⟨e1, e2, e3, e4, e5⟩ := H1.out.cells
  rw [hm] at e3
  obtain ⟨W1, hW1⟩ : ∃ x, W.alloc (.cells (actA 4 cc kk r u b pv) actT) = x := ⟨_, rfl⟩
  obtain ⟨POST, hPOST⟩ : ∃ P, (fun (e : Ending) (w' : World) => e = .returned (.bool true) ∧ ∃ F1 G1 ds' D', LR L ds' D' ∧ ds'.length = ds.length ∧ PB w w' pb n xb x q F1 G1 N L ds' N L ds.length D' (.slice (some ⟨gb, go, none⟩) hs.length gcap) hs []) = P := ⟨_, rfl⟩
  rw [hPOST]
  have HP := hid hPOST
  clear hPOST hgc hq1 hr1
  go_enter Try.func67, Try.ntmps67
  go_wp2_with fail
  rw [hW1] at H1 e1 e2 e3 e4 e5 d0 d1
  have x2 := (H1.out.aside (W.heap.size, actT, actA 4 cc kk r u b pv) (by simp)).1.cell 2
  simp at x2
  clear hW1
  obtain ⟨S, hSe⟩ : ∃ S : World → Prop, ∀ w', S w' ↔ (w'.cell? ⟨q, 2, none⟩ = some (.slice (some ⟨gb, go, none⟩) m gcap) ∧ w'.cell? ⟨W.heap.size, 2, none⟩ = some (.int .i64 kk) ∧ w'.cell? ⟨gb, go + r1 * 2, none⟩ = some (.int .i64 i1) ∧ w'.cell? ⟨gb, go + r1 * 2 + 1, none⟩ = some (.int .i64 g1)) := ⟨_, fun _ => Iff.rfl⟩
  have hSk : ∀ w', Keeps [] W1 w' → S w' := fun w' hk => (hSe _).2 ⟨cell_keep hk (by simp) e3, cell_keep hk (by simp) x2, cell_keep hk (by simp) d0, cell_keep hk (by simp) d1⟩
  refine wp_region_held_drew (S := S) (by kernel_rfl) (hSk _ (Keeps.refl [] W1).drew) (fun hHeld => ?_)
  refine wpAnyH_take (i := 0) (v := ?_) rfl (by kernel_rfl) (by kernel_rfl) (by kernel_rfl) (fun _ _ _ h => h) ?_ (by assumption) ?_
  rotate_left 1
  · first | (apply Or.inl; constructor; rfl; intro Wx hSw; obtain ⟨s1_, s2_, s3_, s4_⟩ := (hSe _).1 hSw; go_simp; try (with_reducible rfl)) | (apply Or.inr; constructor; rfl; rfl)
  try simp only [Act.put, List.getElem_toArray, List.getElem_cons_succ, List.getElem_cons_zero, List.setIfInBounds_toArray, List.set_cons_zero, List.set_cons_succ]
  refine wpAnyH_take (i := 1) (v := ?_) rfl (by kernel_rfl) (by kernel_rfl) (by kernel_rfl) (fun _ _ _ h => h) ?_ (by assumption) ?_
  rotate_left 1
  · first | (apply Or.inl; constructor; rfl; intro Wx hSw; obtain ⟨s1_, s2_, s3_, s4_⟩ := (hSe _).1 hSw; go_simp; try (with_reducible rfl)) | (apply Or.inr; constructor; rfl; rfl)
  try simp only [Act.put, List.getElem_toArray, List.getElem_cons_succ, List.getElem_cons_zero, List.setIfInBounds_toArray, List.set_cons_zero, List.set_cons_succ]
  refine wpAnyH_take (i := 2) (v := ?_) rfl (by kernel_rfl) (by kernel_rfl) (by kernel_rfl) (fun _ _ _ h => h) ?_ (by assumption) ?_
  rotate_left 1
  · first | (apply Or.inl; constructor; rfl; intro Wx hSw; obtain ⟨s1_, s2_, s3_, s4_⟩ := (hSe _).1 hSw; go_simp; try (with_reducible rfl)) | (apply Or.inr; constructor; rfl; rfl)
  try simp only [Act.put, List.getElem_toArray, List.getElem_cons_succ, List.getElem_cons_zero, List.setIfInBounds_toArray, List.set_cons_zero, List.set_cons_succ]
  refine wpAnyH_take (i := 3) (v := ?_) rfl (by kernel_rfl) (by kernel_rfl) (by kernel_rfl) (fun _ _ _ h => h) ?_ (by assumption) ?_
  rotate_left 1
  · first | (apply Or.inl; constructor; rfl; intro Wx hSw; obtain ⟨s1_, s2_, s3_, s4_⟩ := (hSe _).1 hSw; go_simp; try (with_reducible rfl)) | (apply Or.inr; constructor; rfl; rfl)
  try simp only [Act.put, List.getElem_toArray, List.getElem_cons_succ, List.getElem_cons_zero, List.setIfInBounds_toArray, List.set_cons_zero, List.set_cons_succ]
  refine wpAnyH_take (i := 4) (v := ?_) rfl (by kernel_rfl) (by kernel_rfl) (by kernel_rfl) (fun _ _ _ h => h) ?_ (by assumption) ?_
  rotate_left 1
  · first | (apply Or.inl; constructor; rfl; intro Wx hSw; obtain ⟨s1_, s2_, s3_, s4_⟩ := (hSe _).1 hSw; go_simp; try (with_reducible rfl)) | (apply Or.inr; constructor; rfl; rfl)
  try simp only [Act.put, List.getElem_toArray, List.getElem_cons_succ, List.getElem_cons_zero, List.setIfInBounds_toArray, List.set_cons_zero, List.set_cons_succ]
  refine wpAnyH_take (i := 5) (v := ?_) rfl (by kernel_rfl) (by kernel_rfl) (by kernel_rfl) (fun _ _ _ h => h) ?_ (by assumption) ?_
  rotate_left 1
  · first | (apply Or.inl; constructor; rfl; intro Wx hSw; obtain ⟨s1_, s2_, s3_, s4_⟩ := (hSe _).1 hSw; go_simp; try (with_reducible rfl)) | (apply Or.inr; constructor; rfl; rfl)
  try simp only [Act.put, List.getElem_toArray, List.getElem_cons_succ, List.getElem_cons_zero, List.setIfInBounds_toArray, List.set_cons_zero, List.set_cons_succ]
  refine wpAnyH_take (i := 6) (v := ?_) rfl (by kernel_rfl) (by kernel_rfl) (by kernel_rfl) (fun _ _ _ h => h) ?_ (by assumption) ?_
  rotate_left 1
  · first | (apply Or.inl; constructor; rfl; intro Wx hSw; obtain ⟨s1_, s2_, s3_, s4_⟩ := (hSe _).1 hSw; go_simp; try (with_reducible rfl)) | (apply Or.inr; constructor; rfl; rfl)
  try simp only [Act.put, List.getElem_toArray, List.getElem_cons_succ, List.getElem_cons_zero, List.setIfInBounds_toArray, List.set_cons_zero, List.set_cons_succ]
  refine wpAnyH_take (i := 7) (v := ?_) rfl (by kernel_rfl) (by kernel_rfl) (by kernel_rfl) (fun _ _ _ h => h) ?_ (by assumption) ?_
  rotate_left 1
  · first | (apply Or.inl; constructor; rfl; intro Wx hSw; obtain ⟨s1_, s2_, s3_, s4_⟩ := (hSe _).1 hSw; go_simp; try (with_reducible rfl)) | (apply Or.inr; constructor; rfl; rfl)
  try simp only [Act.put, List.getElem_toArray, List.getElem_cons_succ, List.getElem_cons_zero, List.setIfInBounds_toArray, List.set_cons_zero, List.set_cons_succ]
  refine wpAnyH_take (i := 8) (v := ?_) rfl (by kernel_rfl) (by kernel_rfl) (by kernel_rfl) (fun _ _ _ h => h) ?_ (by assumption) ?_
  rotate_left 1
  · first | (apply Or.inl; constructor; rfl; intro Wx hSw; obtain ⟨s1_, s2_, s3_, s4_⟩ := (hSe _).1 hSw; go_simp; try (with_reducible rfl)) | (apply Or.inr; constructor; rfl; rfl)
  try simp only [Act.put, List.getElem_toArray, List.getElem_cons_succ, List.getElem_cons_zero, List.setIfInBounds_toArray, List.set_cons_zero, List.set_cons_succ]
  refine wpAnyH_take (i := 9) (v := ?_) rfl (by kernel_rfl) (by kernel_rfl) (by kernel_rfl) (fun _ _ _ h => h) ?_ (by assumption) ?_
  rotate_left 1
  · first | (apply Or.inl; constructor; rfl; intro Wx hSw; obtain ⟨s1_, s2_, s3_, s4_⟩ := (hSe _).1 hSw; go_simp; try (with_reducible rfl)) | (apply Or.inr; constructor; rfl; rfl)
  try simp only [Act.put, List.getElem_toArray, List.getElem_cons_succ, List.getElem_cons_zero, List.setIfInBounds_toArray, List.set_cons_zero, List.set_cons_succ]
  refine wpAnyH_take (i := 10) (v := ?_) rfl (by kernel_rfl) (by kernel_rfl) (by kernel_rfl) (fun _ _ _ h => h) ?_ (by assumption) ?_
  rotate_left 1
  · first | (apply Or.inl; constructor; rfl; intro Wx hSw; obtain ⟨s1_, s2_, s3_, s4_⟩ := (hSe _).1 hSw; go_simp; try (with_reducible rfl)) | (apply Or.inr; constructor; rfl; rfl)
  try simp only [Act.put, List.getElem_toArray, List.getElem_cons_succ, List.getElem_cons_zero, List.setIfInBounds_toArray, List.set_cons_zero, List.set_cons_succ]
  refine wpAnyH_take (i := 11) (v := ?_) rfl (by kernel_rfl) (by kernel_rfl) (by kernel_rfl) (fun _ _ _ h => h) ?_ (by assumption) ?_
  rotate_left 1
  · first | (apply Or.inl; constructor; rfl; intro Wx hSw; obtain ⟨s1_, s2_, s3_, s4_⟩ := (hSe _).1 hSw; go_simp; try (with_reducible rfl)) | (apply Or.inr; constructor; rfl; rfl)
  try simp only [Act.put, List.getElem_toArray, List.getElem_cons_succ, List.getElem_cons_zero, List.setIfInBounds_toArray, List.set_cons_zero, List.set_cons_succ]
  refine wpAnyH_take (i := 12) (v := ?_) rfl (by kernel_rfl) (by kernel_rfl) (by kernel_rfl) (fun _ _ _ h => h) ?_ (by assumption) ?_
  rotate_left 1
  · first | (apply Or.inl; constructor; rfl; intro Wx hSw; obtain ⟨s1_, s2_, s3_, s4_⟩ := (hSe _).1 hSw; go_simp; try (with_reducible rfl)) | (apply Or.inr; constructor; rfl; rfl)
  try simp only [Act.put, List.getElem_toArray, List.getElem_cons_succ, List.getElem_cons_zero, List.setIfInBounds_toArray, List.set_cons_zero, List.set_cons_succ]
  refine wpAnyH_take (i := 13) (v := ?_) rfl (by kernel_rfl) (by kernel_rfl) (by kernel_rfl) (fun _ _ _ h => h) ?_ (by assumption) ?_
  rotate_left 1
  · first | (apply Or.inl; constructor; rfl; intro Wx hSw; obtain ⟨s1_, s2_, s3_, s4_⟩ := (hSe _).1 hSw; go_simp; try (with_reducible rfl)) | (apply Or.inr; constructor; rfl; rfl)
  try simp only [Act.put, List.getElem_toArray, List.getElem_cons_succ, List.getElem_cons_zero, List.setIfInBounds_toArray, List.set_cons_zero, List.set_cons_succ]
  refine wpAnyH_take (i := 14) (v := ?_) rfl (by kernel_rfl) (by kernel_rfl) (by kernel_rfl) (fun _ _ _ h => h) ?_ (by assumption) ?_
  rotate_left 1
  · first | (apply Or.inl; constructor; rfl; intro Wx hSw; obtain ⟨s1_, s2_, s3_, s4_⟩ := (hSe _).1 hSw; go_simp; try (with_reducible rfl)) | (apply Or.inr; constructor; rfl; rfl)
  try simp only [Act.put, List.getElem_toArray, List.getElem_cons_succ, List.getElem_cons_zero, List.setIfInBounds_toArray, List.set_cons_zero, List.set_cons_succ]
  refine wpAnyH_ready (rs := [15]) (by kernel_rfl) (by simp) ?_
  refine AllReadyH.cons rfl (fun K1 hK => ?_) AllReadyH.nil
  go_simp
  refine hK.out _ _ (hSk _ ((Keeps.refl [] W1).drew.alloc _)) (fun hHeld => ?_)
  clear hK K1
  try simp only [Act.put, List.getElem_toArray, List.getElem_cons_succ, List.getElem_cons_zero, List.setIfInBounds_toArray, List.set_cons_zero, List.set_cons_succ]
  refine wpAnyH_ready (rs := [16]) (by kernel_rfl) (by simp) ?_
  refine AllReadyH.cons rfl (fun K1 hK => ?_) AllReadyH.nil
  go_simp
  have hk2 : Keeps [] W1 (W1.alloc (.cells #[.int .i64 i1, .int .i64 g1] 30)).drew := ((Keeps.refl [] W1).alloc _).drew
  refine hK.out _ _ (hSk _ hk2) (fun hHeld => ?_)
  clear hK K1
  refine wpAnyH_done (by kernel_rfl) ?_ _
  have hb5 : Blk (W1.alloc (.cells #[.int .i64 i1, .int .i64 g1] 30)).drew W1.heap.size 30 #[.int .i64 i1, .int .i64 g1] := Blk.drew (Blk.new W1 _ _)
  have h2 := H1.out.put (W1.heap.size, 30, #[.int .i64 i1, .int .i64 g1]) hk2 hb5 (Nat.le_refl _)
  have H2 := hid h2
  obtain ⟨a5, ha5⟩ : ∃ a, W1.heap.size = a := ⟨_, rfl⟩
  rw [ha5] at H2 ⊢
  obtain ⟨W2, hW2⟩ : ∃ x, (W1.alloc (.cells #[.int .i64 i1, .int .i64 g1] 30)).drew = x := ⟨_, rfl⟩
  rw [hW2] at H2 ⊢
  clear h2 hb5 hk2 hW2 hSk hSe hHeld ha5 e1 e2 e3 e4 e5 d0 d1 x2 H1 hmod1 hr1i hmi hmz
  have e1 := H2.out.cells.1
  have e2 := H2.out.cells.2.1
  have x0 := (H2.out.aside (W.heap.size, actT, actA 4 cc kk r u b pv) (by simp)).1.cell 0
  have x3 := (H2.out.aside (W.heap.size, actT, actA 4 cc kk r u b pv) (by simp)).1.cell 3
  have x4 := (H2.out.aside (W.heap.size, actT, actA 4 cc kk r u b pv) (by simp)).1.cell 4
  have y0 := (H2.out.aside (a5, 30, #[.int .i64 i1, .int .i64 g1]) (by simp)).1.cell 0
  have y1 := (H2.out.aside (a5, 30, #[.int .i64 i1, .int .i64 g1]) (by simp)).1.cell 1
  simp at x0 x3 x4 y0 y1
  have x6 := (H2.out.aside (W.heap.size, actT, actA 4 cc kk r u b pv) (by simp)).1.cell 6
  simp at x6
  have HPW : Hid (∀ F, (∀ k ∈ F, w.heap.size ≤ k) → CellsIn W2 F pv (ps.map (.int .i64))) := hid (fun F hF => (hpv F hF).keeps H2.out.kp (by simp))
  obtain ⟨PA, pcap, hpe, hp1, hp2⟩ := (hpv [] (by simp)).shape
  subst hpe
  simp only [List.length_map] at hp1 x6 HPW ⊢
  have x6a := fun o => alloc_cell x6 o
  have HPV := hid hpv
  simp only [List.length_map] at HPV
  obtain ⟨j1, hj1, hx0, hx1, hx2⟩ := info_parts int_info
  have hrd := (((HPW.out [] (by simp)).keeps ((Keeps.refl [] W2).alloc (.cells #[] 3)) (by simp)).reads).2
  have HRD := hid hrd
  clear hpv hrd
  have hone : ∀ v ∈ ps.map (Value.int .i64), v.oneCell' = true := fun v hv => by
    obtain ⟨z, -, rfl⟩ := List.mem_map.1 hv
    rfl
  have HONE := hid hone
  clear hone
  go_wp2_with (at_builtin; go_loud (refine wpList_append_row _ rfl (.tmp 124) (.tmp 126) _ rfl 3 j1 _ 1 8 Try.underlying22 hj1 hx0 hx1 hx2 rfl (by omega) (.slice (some ⟨W2.heap.size, 0, none⟩) 0 0) 0 [] rfl (Row.empty W2 _) PA ps.length pcap (ps.map (.int .i64)) rfl HRD.out HONE.out (by simp only [maxLen]; omega) (by omega) ?_); intro v5 v5w hv5 hk5 ho5; rw [Nat.zero_add, List.nil_append] at hv5; have hk5' := rnew_keeps hk5; have ho5' := rnew_own ho5; have H3 := hid (H2.out.next hk5'); have HV5 := hid hv5; have HO5 := hid ho5'; clear hv5 hk5 ho5 hk5' ho5')
  clear x6a x6 e1 e2 x0 x3 x4 y0 y1 HRD HONE hHeld
  obtain ⟨S2, hSe⟩ : ∃ S : World → Prop, ∀ w', S w' ↔ (w'.cell? ⟨q, 0, none⟩ = some (.pointer (some ⟨pb, 0, none⟩)) ∧ w'.cell? ⟨q, 1, none⟩ = some (.pointer (some ⟨xb, 0, none⟩)) ∧ w'.cell? ⟨W.heap.size, 6, none⟩ = some (.slice PA ps.length pcap)) := ⟨_, fun _ => Iff.rfl⟩
  have hSP : ∀ {w' : World} {F G : List Nat} {ds1 : WL} {c1 : Int} {D1 : Nat → Wd} {A : AL}, PB w w' pb n xb x q F G N L ds1 N L c1 D1 (.slice (some ⟨gb, go, none⟩) hs.length gcap) hs A → (W.heap.size, actT, actA 4 cc kk r u b (.slice PA (List.map (Value.int .i64) ps).length pcap)) ∈ A → S2 w' := fun h hA => (hSe _).2 ⟨h.cells.1, h.cells.2.1, by simpa using (h.aside _ hA).1.cell 6⟩
  have hp := H3.out.next (Keeps.refl [] v5w).drew
  refine wp_region_held_drew (S := S2) (by kernel_rfl) (hSP hp (by simp)) (fun hHeld => ?_)
  refine wpAnyH_take (i := 0) (v := ?_) rfl (by kernel_rfl) (by kernel_rfl) (by kernel_rfl) (fun _ _ _ h => h) ?_ (by assumption) ?_
  rotate_left 1
  · first | (apply Or.inl; constructor; rfl; intro Wx hSw; obtain ⟨s1_, s2_, s3_⟩ := (hSe _).1 hSw; go_simp; try (with_reducible rfl)) | (apply Or.inr; constructor; rfl; rfl)
  try simp only [Act.put, List.getElem_toArray, List.getElem_cons_succ, List.getElem_cons_zero, List.setIfInBounds_toArray, List.set_cons_zero, List.set_cons_succ]
  refine wpAnyH_take (i := 1) (v := ?_) rfl (by kernel_rfl) (by kernel_rfl) (by kernel_rfl) (fun _ _ _ h => h) ?_ (by assumption) ?_
  rotate_left 1
  · first | (apply Or.inl; constructor; rfl; intro Wx hSw; obtain ⟨s1_, s2_, s3_⟩ := (hSe _).1 hSw; go_simp; try (with_reducible rfl)) | (apply Or.inr; constructor; rfl; rfl)
  try simp only [Act.put, List.getElem_toArray, List.getElem_cons_succ, List.getElem_cons_zero, List.setIfInBounds_toArray, List.set_cons_zero, List.set_cons_succ]
  refine wpAnyH_take (i := 2) (v := ?_) rfl (by kernel_rfl) (by kernel_rfl) (by kernel_rfl) (fun _ _ _ h => h) ?_ (by assumption) ?_
  rotate_left 1
  · first | (apply Or.inl; constructor; rfl; intro Wx hSw; obtain ⟨s1_, s2_, s3_⟩ := (hSe _).1 hSw; go_simp; try (with_reducible rfl)) | (apply Or.inr; constructor; rfl; rfl)
  try simp only [Act.put, List.getElem_toArray, List.getElem_cons_succ, List.getElem_cons_zero, List.setIfInBounds_toArray, List.set_cons_zero, List.set_cons_succ]
  refine wpAnyH_take (i := 3) (v := ?_) rfl (by kernel_rfl) (by kernel_rfl) (by kernel_rfl) (fun _ _ _ h => h) ?_ (by assumption) ?_
  rotate_left 1
  · first | (apply Or.inl; constructor; rfl; intro Wx hSw; obtain ⟨s1_, s2_, s3_⟩ := (hSe _).1 hSw; go_simp; try (with_reducible rfl)) | (apply Or.inr; constructor; rfl; rfl)
  try simp only [Act.put, List.getElem_toArray, List.getElem_cons_succ, List.getElem_cons_zero, List.setIfInBounds_toArray, List.set_cons_zero, List.set_cons_succ]
  refine wpAnyH_take (i := 4) (v := ?_) rfl (by kernel_rfl) (by kernel_rfl) (by kernel_rfl) (fun _ _ _ h => h) ?_ (by assumption) ?_
  rotate_left 1
  · first | (apply Or.inl; constructor; rfl; intro Wx hSw; obtain ⟨s1_, s2_, s3_⟩ := (hSe _).1 hSw; go_simp; try (with_reducible rfl)) | (apply Or.inr; constructor; rfl; rfl)
  try simp only [Act.put, List.getElem_toArray, List.getElem_cons_succ, List.getElem_cons_zero, List.setIfInBounds_toArray, List.set_cons_zero, List.set_cons_succ]
  refine wpAnyH_take (i := 6) (v := ?_) rfl (by kernel_rfl) (by kernel_rfl) (by kernel_rfl) (fun _ _ _ h => h) ?_ (by assumption) ?_
  rotate_left 1
  · first | (apply Or.inl; constructor; rfl; intro Wx hSw; obtain ⟨s1_, s2_, s3_⟩ := (hSe _).1 hSw; go_simp; try (with_reducible rfl)) | (apply Or.inr; constructor; rfl; rfl)
  try simp only [Act.put, List.getElem_toArray, List.getElem_cons_succ, List.getElem_cons_zero, List.setIfInBounds_toArray, List.set_cons_zero, List.set_cons_succ]
  refine wpAnyH_take (i := 7) (v := ?_) rfl (by kernel_rfl) (by kernel_rfl) (by kernel_rfl) (fun _ _ _ h => h) ?_ (by assumption) ?_
  rotate_left 1
  · first | (apply Or.inl; constructor; rfl; intro Wx hSw; obtain ⟨s1_, s2_, s3_⟩ := (hSe _).1 hSw; go_simp; try (with_reducible rfl)) | (apply Or.inr; constructor; rfl; rfl)
  try simp only [Act.put, List.getElem_toArray, List.getElem_cons_succ, List.getElem_cons_zero, List.setIfInBounds_toArray, List.set_cons_zero, List.set_cons_succ]
  refine wpAnyH_take (i := 8) (v := ?_) rfl (by kernel_rfl) (by kernel_rfl) (by kernel_rfl) (fun _ _ _ h => h) ?_ (by assumption) ?_
  rotate_left 1
  · first | (apply Or.inl; constructor; rfl; intro Wx hSw; obtain ⟨s1_, s2_, s3_⟩ := (hSe _).1 hSw; go_simp; try (with_reducible rfl)) | (apply Or.inr; constructor; rfl; rfl)
  try simp only [Act.put, List.getElem_toArray, List.getElem_cons_succ, List.getElem_cons_zero, List.setIfInBounds_toArray, List.set_cons_zero, List.set_cons_succ]
  refine wpAnyH_take (i := 9) (v := ?_) rfl (by kernel_rfl) (by kernel_rfl) (by kernel_rfl) (fun _ _ _ h => h) ?_ (by assumption) ?_
  rotate_left 1
  · first | (apply Or.inl; constructor; rfl; intro Wx hSw; obtain ⟨s1_, s2_, s3_⟩ := (hSe _).1 hSw; go_simp; try (with_reducible rfl)) | (apply Or.inr; constructor; rfl; rfl)
  try simp only [Act.put, List.getElem_toArray, List.getElem_cons_succ, List.getElem_cons_zero, List.setIfInBounds_toArray, List.set_cons_zero, List.set_cons_succ]
  refine wpAnyH_take (i := 10) (v := ?_) rfl (by kernel_rfl) (by kernel_rfl) (by kernel_rfl) (fun _ _ _ h => h) ?_ (by assumption) ?_
  rotate_left 1
  · first | (apply Or.inl; constructor; rfl; intro Wx hSw; obtain ⟨s1_, s2_, s3_⟩ := (hSe _).1 hSw; go_simp; try (with_reducible rfl)) | (apply Or.inr; constructor; rfl; rfl)
  try simp only [Act.put, List.getElem_toArray, List.getElem_cons_succ, List.getElem_cons_zero, List.setIfInBounds_toArray, List.set_cons_zero, List.set_cons_succ]
  refine wpAnyH_take (i := 11) (v := ?_) rfl (by kernel_rfl) (by kernel_rfl) (by kernel_rfl) (fun _ _ _ h => h) ?_ (by assumption) ?_
  rotate_left 1
  · first | (apply Or.inl; constructor; rfl; intro Wx hSw; obtain ⟨s1_, s2_, s3_⟩ := (hSe _).1 hSw; go_simp; try (with_reducible rfl)) | (apply Or.inr; constructor; rfl; rfl)
  try simp only [Act.put, List.getElem_toArray, List.getElem_cons_succ, List.getElem_cons_zero, List.setIfInBounds_toArray, List.set_cons_zero, List.set_cons_succ]
  refine wpAnyH_ready (rs := [5]) (by kernel_rfl) (by simp) ?_
  refine AllReadyH.cons rfl (fun K1 hK => ?_) AllReadyH.nil
  go_simp
  refine (wait_any pb n F N L ds v5 ps _ hp.prog hL (by simpa using (HV5.out.drew).cellsIn (F := F) (fun k hk hx => by have h1 := HO5.out k hk; have h2 := H2.out.prog.flt k hx; omega))).mono ?_
  rintro e w6 ⟨v6, rfl, hev, hr6, hk6, ho6⟩
  have H6 := hid (hp.pstep hr6 (fun k hk => .inl hk) hk6)
  have HEV := hid hev
  have HO6 := hid ho6
  refine hK.out _ _ (hSP H6.out (by simp)) (fun hHeld => ?_)
  clear hK K1 hev hr6 hk6 ho6
  refine wpAnyH_ready (rs := [12]) (by kernel_rfl) (by simp) ?_
  refine AllReadyH.cons rfl (fun K1 hK => ?_) AllReadyH.nil
  go_simp
  refine (rwait_any xb x G N L ds.length D _ ps _ H6.out.ref hL ((HPV.out G H6.out.gl).keeps H6.out.kp (by simp)) hps).mono ?_
  rintro e w7 ⟨v7, rfl, hev7, hr7, hk7, ho7⟩
  have H7 := hid (H6.out.rstep hr7 (fun k hk => .inl hk) hk7)
  have hev6 : EvIn w7 [] v6 (pickE ps (evsP N L ds)) := by
    obtain ⟨B, c0, hv, g1', g2', g3'⟩ := HEV.out
    refine ⟨B, c0, hv, g1', g2', fun hpp => ?_⟩
    obtain ⟨bb, oo, hB, -, hc⟩ := g3' hpp
    refine ⟨bb, oo, hB, by simp, fun j e he => ?_⟩
    have hbg : bb ∉ G := fun hx => by
      have h1 := HO6.out bb (by rw [hv, hB]; rfl)
      have h2 := hp.ref.flt bb hx
      omega
    obtain ⟨k1, k2, k3, k4, k5⟩ := hc j e he
    exact ⟨cell_keep hk7 hbg k1, cell_keep hk7 hbg k2, cell_keep hk7 hbg k3, cell_keep hk7 hbg k4, cell_keep hk7 hbg k5⟩
  refine hK.out _ _ (hSP H7.out (by simp)) (fun hHeld => ?_)
  clear hK K1
  refine wpAnyH_ready (rs := [13]) (by kernel_rfl) (by simp) ?_
  refine AllReadyH.cons rfl (fun K1 hK => ?_) AllReadyH.nil
  go_simp
  refine (events_any v6 v7 _ _ w7 hev6 (hev7.mono (by simp))).mono ?_
  rw [show decide (pickE ps (evsP N L ds) = pickE ps (evsR N L D)) = true by rw [lr_evs HLR.out hmk]; simp]
  rintro e w8 ⟨rfl, hk8⟩
  have H8 := hid (H7.out.next hk8)
  refine hK.out _ _ (hSP H8.out (by simp)) (fun hHeld => ?_)
  clear hK K1
  refine wpAnyH_take (i := 14) (v := ?_) rfl (by kernel_rfl) (by kernel_rfl) (by kernel_rfl) (fun _ _ _ h => h) ?_ (by assumption) ?_
  rotate_left 1
  · first | (apply Or.inl; constructor; rfl; intro Wx hSw; obtain ⟨s1_, s2_, s3_⟩ := (hSe _).1 hSw; go_simp; try (with_reducible rfl)) | (apply Or.inr; constructor; rfl; rfl)
  try simp only [Act.put, List.getElem_toArray, List.getElem_cons_succ, List.getElem_cons_zero, List.setIfInBounds_toArray, List.set_cons_zero, List.set_cons_succ]
  refine wpAnyH_done (by kernel_rfl) ?_ _
  have HLW := hid (lr_wait HLR.out hmk)
  clear hev6 hev7 hr7 hk7 ho7 hk8 hp
  go_wp2_with fail
  rw [← HP.out]
  exact ⟨rfl, F, G, _, _, HLW.out, by simp [toldP], H8.out.away (A' := []) (by simp)⟩
end Go.Proofs.Ytkeffebcmajhmaa
