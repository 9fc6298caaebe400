/- The poller: Watch by contract. -/
import Derived.Test.YtkeffebcmajhmaaPoll6
namespace Go.Proofs.Ytkeffebcmajhmaa
open Go.RowKit
set_option linter.unusedVariables false
set_option linter.unusedSimpArgs false
def WatchNo (w : World) (c : Int) (e : Ending) (w' : World) : Prop := e = .returned (.tuple #[.agg #[.int .i64 0, .int .i64 0], .int .i64 c]) ∧ Keeps [] w w'
theorem state_field (a b c : Bool) (d : Int) (w : World) : (Instr.field 112 (.agg #[.bool a, .bool b, .bool c, .int .i64 d]) 1).run Try.prog w = .ok (.bool b) w := by kernel_rfl
set_option maxRecDepth 100000 in
set_option maxHeartbeats 4000000 in
theorem watch_bad (pb n : Nat) (F : List Nat) (N : NS) (L : List Slot) (ds : List ((Int × Int) × Wd)) (id : Int) (rd wr_ ed : Bool) (w : World) (h : PRep w pb n F N L ds) (h1 : id ≠ -1) (h2 : (stateN N id).2.1 = false) :
    Calls Try.prog 50 #[.pointer (some ⟨pb, 0, none⟩), .int .i64 id, .bool rd, .bool wr_, .bool ed] w (WatchNo w 2) := by
  obtain ⟨s, m, Fn, Fs, es, clock, h, hds, rfl⟩ := h
  have p0 := h.blk.cell 0
  simp [pcells] at p0
  have HN := hid h.net
  have hne : (id != -1) = true := by simpa using h1
  clear h hds
  have q0 := fun o => alloc_cell p0 o
  have h2 := hid h2
  have HB := hid (Blk.new w 30 #[.int .i64 0, .int .i64 0])
  have hfld := state_field
  go_enter Try.func50, Try.ntmps50
  go_wp2_with (go_at_call 65; refine (state_any n Fn N id _ (HN.out.keeps ((Keeps.refl [] w).alloc _) (by simp))).mono ?_; rw [h2.out]; rintro e w1 ⟨rfl, hk1⟩; have hb1 := HB.out.keeps hk1 (by simp); have r0 := hb1.cell 0; have r1 := hb1.cell 1; have f0 := hb1.frozen 0; have f1 := hb1.frozen 1; have hk2 := ((Keeps.refl [] w).alloc _).trans hk1 (by simp); have HK2 := hid hk2; clear hk1 hk2 hb1; simp at r0 r1)
  exact bodyPost_ret (v := .tuple #[.agg #[.int .i64 0, .int .i64 0], .int .i64 2]) (by simp [results, Try.results50, go_sem, r0, r1]) rfl ⟨rfl, by (repeat (first | exact HK2.out | exact Keeps.refl _ _ | exact .inr (Nat.le_refl _) | apply Keeps.drewN | apply Keeps.alloc | apply Keeps.setCell))⟩
def WatchYes (w : World) (pb n : Nat) (F : List Nat) (N : NS) (L : List Slot) (ds : List ((Int × Int) × Wd)) (d : Wd) (e : Ending) (w' : World) : Prop :=
  e = .returned (.tuple #[.agg #[.int .i64 (freeAt L : Nat), .int .i64 (putG L)], .int .i64 0]) ∧ (∃ F', PRep w' pb n F' N (putL L d.id) (ds ++ [((((freeAt L : Nat) : Int), putG L), d)]) ∧ LaterF F w F') ∧ Keeps F w w'
def WatchPost (w : World) (pb n : Nat) (F : List Nat) (N : NS) (L : List Slot) (ds : List ((Int × Int) × Wd)) (d : Wd) (e : Ending) (w' : World) : Prop :=
  (∃ x ∈ ds, x.2.id = d.id) ∧ WatchNo w 11 e w' ∨ (∀ x ∈ ds, x.2.id ≠ d.id) ∧ WatchYes w pb n F N L ds d e w'
set_option maxRecDepth 100000 in
set_option maxHeartbeats 8000000 in
/-- Watch, up to its range. -/
theorem watch_any (pb n : Nat) (F : List Nat) (N : NS) (L : List Slot) (ds : List ((Int × Int) × Wd)) (id : Int) (rd wr_ ed : Bool) (w : World) (h : PRep w pb n F N L ds) (h1 : id = -1 ∨ (stateN N id).2.1 = true) (hg : ∀ d ∈ L, 0 ≤ d.1 ∧ d.1 ≤ 1099511627776) (hL : L.length ≤ 1099511627776) (hd : ds.length < 4096) :
    Calls Try.prog 50 #[.pointer (some ⟨pb, 0, none⟩), .int .i64 id, .bool rd, .bool wr_, .bool ed] w (WatchPost w pb n F N L ds ⟨id, rd, wr_, ed, 0, 0⟩) := by
  obtain ⟨s, m, Fn, Fs, es, clock, h, hds, rfl⟩ := h
  have H := hid h
  have hel : es.length < 4096 := by rw [hds] at hd; simpa using hd
  have p0 := h.blk.cell 0
  have p1 := h.blk.cell 1
  have p2 := h.blk.cell 2
  simp [pcells] at p0 p1 p2
  have HDS := hid hds
  have HG := hid hg
  obtain ⟨POST, hPOST⟩ : ∃ P, WatchPost w pb n (pb :: m :: (Fn ++ (Fs ++ es.map (·.1.p)))) N L ds ⟨id, rd, wr_, ed, 0, 0⟩ = P := ⟨_, rfl⟩
  rw [hPOST]
  have HP := hid hPOST
  have hfld := state_field
  clear h hds hg hd hPOST
  have q0 := fun o => alloc_cell p0 o
  have q2 := fun o => alloc_cell p2 o
  have hb := Blk.new w 30 #[.int .i64 0, .int .i64 0]
  have HB := hid hb
  clear hb
  have h1 : (id != -1) = false ∨ ((id != -1) = true ∧ (stateN N id).2.1 = true) := by
    rcases h1 with rfl | h1
    · exact .inl rfl
    · cases hc : (id != -1)
      · exact .inl rfl
      · exact .inr ⟨rfl, h1⟩
  rcases h1 with hne | ⟨hne, hs⟩
  focus
    go_enter Try.func50, Try.ntmps50
    have hk1 := (Keeps.refl [] w).alloc (.cells #[.int .i64 0, .int .i64 0] 30)
    have HK1 := hid hk1
    have HB1 := HB
    clear hk1
    go_wp2_with (at_range; refine wpList_rangeH rfl _ rfl rfl (H.out.map.keeps HK1.out (by simp)) ?_)
    obtain ⟨w1, hw1⟩ : ∃ x, w.alloc (.cells #[.int .i64 0, .int .i64 0] 30) = x := ⟨_, rfl⟩
    rw [hw1] at HK1 HB1 ⊢
    clear hw1
  rotate_left 1
  focus
    have hs := hid hs
    go_enter Try.func50, Try.ntmps50
    go_wp2_with (first | (go_at_call 65; refine (state_any n Fn N id _ (H.out.net.keeps ((Keeps.refl [] w).alloc _) (by simp))).mono ?_; rw [hs.out]; rintro e w1 ⟨rfl, hk1⟩; have hb1 := HB.out.keeps hk1 (by simp); have hk2 := ((Keeps.refl [] w).alloc _).trans hk1 (by simp); have e2 := cell_keep hk2 (by simp) p2; have HK1 := hid hk2; have HB1 := hid hb1; clear hk1 hk2 hb1) | (at_range; refine wpList_rangeH rfl _ rfl rfl (H.out.map.keeps HK1.out (by simp)) ?_))
  all_goals
    go_frame
    have hz1 : w.heap.size < w1.heap.size := HB1.out.lt
    go_loopw [11, 13] (fun c _ wr => c = .int .i64 0 ∧ ∃ seen, wr.heap[w1.heap.size]? = some (.mapIter (some m) clock seen clock) ∧ (∀ x ∈ es, seen.contains x.1.b = true → x.2.id ≠ id) ∧ Keeps [] w1 wr) (fun _ _ wr => match wr.heap[w1.heap.size]? with | some (.mapIter _ _ seen _) => unseen es seen | _ => 0)
    case atStart => exact ⟨rfl, #[], heap_alloc_new _ _, by simp, (Keeps.refl [] w1).alloc _⟩
    case round =>
      obtain ⟨rfl, seen, hr, hno, hkr⟩ := hrel
      have HR := hid hr
      have HNO := hid hno
      have HKR := hid hkr
      clear hr hno hkr
      have hrm : w1.heap.size ≠ m := by have := H.out.map.lt; have := HK1.out.size; omega
      have hk3 : Keeps [] w wr := HK1.out.trans HKR.out (by simp)
      have HK3 := hid hk3
      clear hk3
      go_wp2_with (at_next; refine wpList_nextH rfl _ rfl rfl HR.out (H.out.map.keeps HK3.out (by simp)) (fun e he => by obtain ⟨x, hx, rfl⟩ := List.mem_map.1 he; exact H.out.born x hx) (by have := H.out.bn; simpa [List.map_map, Function.comp_def] using this) hrm ?_ ?_)
      · intro hall
        have hnone : ∀ x ∈ es, x.2.id ≠ id := fun x hx => HNO.out x hx (by simpa using hall x.1 x.2 hx)
        have HN1 := hid hnone
        clear hall hnone
        have e1 := cell_keep HK3.out (by simp) p1
        have e2 := cell_keep HK3.out (by simp) p2
        have hb2 := HB1.out.keeps HKR.out (by simp)
        have HB2 := hid hb2
        clear hb2
        have hnl : (((es.length : Nat) : Int) == 4096) = false := by simp; omega
        go_wp2_with (go_at_call 20; refine (sput_any s Fs 4096 es.length L id _ (H.out.slab.keeps HK3.out (by simp)) hnl HG.out hL (by omega) (by omega)).mono ?_; rintro e w3 ⟨rfl, ⟨Fs', hs3, hla⟩, hk3⟩; have HS3 := hid hs3; have HLA := hid hla; have HK6 := hid hk3; clear hs3 hla hk3)
        have e3 := cell_keep HK6.out (fun hx => (H.out.d2 _ hx).1 rfl) e2
        have g2 := fun o => alloc_cell e3 o
        have hh := Blk.new w3 30 #[.int .i64 (freeAt L : Nat), .int .i64 (putG L)]
        have HH := hid hh
        obtain ⟨w4, hw4⟩ : ∃ x, w3.alloc (.cells #[.int .i64 (freeAt L : Nat), .int .i64 (putG L)] 30) = x := ⟨_, rfl⟩
        have hk7 : Keeps [] w3 w4 := by rw [← hw4]; exact (Keeps.refl [] w3).alloc _
        have HK7 := hid hk7
        have g3 := g2 (.cells #[.int .i64 (freeAt L : Nat), .int .i64 (putG L)] 30)
        rw [hw4] at HH g3 ⊢
        have g0 := HH.out.cell 0
        have g1 := HH.out.cell 1
        simp at g0 g1
        clear g2 hh hk7 hw4 e3
        obtain ⟨S, hSe⟩ : ∃ S : World → Prop, ∀ w', S w' ↔ (w'.cell? ⟨pb, 2, none⟩ = some (.map (some m)) ∧ w'.cell? ⟨w3.heap.size, 0, none⟩ = some (.int .i64 (freeAt L : Nat)) ∧ w'.cell? ⟨w3.heap.size, 1, none⟩ = some (.int .i64 (putG L))) := ⟨_, fun _ => Iff.rfl⟩
        have hSw1 : S w4.drew := (hSe _).2 ⟨g3, g0, g1⟩
        refine wp_region_held_drew (S := S) (by kernel_rfl) hSw1 (fun hHeld => ?_)
        refine wpAnyH_take (i := 0) (v := ?_) rfl (by kernel_rfl) (by kernel_rfl) (by kernel_rfl) (fun _ _ _ h => h) ?_ (by assumption) ?_
        rotate_left 1
        · first | (apply Or.inl; constructor; rfl; intro W hSw; obtain ⟨s1, s2, s3⟩ := (hSe W).1 hSw; go_simp; try (with_reducible rfl)) | (apply Or.inr; constructor; rfl; rfl)
        try simp only [Act.put, List.getElem_toArray, List.getElem_cons_succ, List.getElem_cons_zero, List.setIfInBounds_toArray, List.set_cons_zero, List.set_cons_succ]
        refine wpAnyH_take (i := 1) (v := ?_) rfl (by kernel_rfl) (by kernel_rfl) (by kernel_rfl) (fun _ _ _ h => h) ?_ (by assumption) ?_
        rotate_left 1
        · first | (apply Or.inl; constructor; rfl; intro W hSw; obtain ⟨s1, s2, s3⟩ := (hSe W).1 hSw; go_simp; try (with_reducible rfl)) | (apply Or.inr; constructor; rfl; rfl)
        try simp only [Act.put, List.getElem_toArray, List.getElem_cons_succ, List.getElem_cons_zero, List.setIfInBounds_toArray, List.set_cons_zero, List.set_cons_succ]
        refine wpAnyH_take (i := 2) (v := ?_) rfl (by kernel_rfl) (by kernel_rfl) (by kernel_rfl) (fun _ _ _ h => h) ?_ (by assumption) ?_
        rotate_left 1
        · first | (apply Or.inl; constructor; rfl; intro W hSw; obtain ⟨s1, s2, s3⟩ := (hSe W).1 hSw; go_simp; try (with_reducible rfl)) | (apply Or.inr; constructor; rfl; rfl)
        try simp only [Act.put, List.getElem_toArray, List.getElem_cons_succ, List.getElem_cons_zero, List.setIfInBounds_toArray, List.set_cons_zero, List.set_cons_succ]
        refine wpAnyH_take (i := 3) (v := ?_) rfl (by kernel_rfl) (by kernel_rfl) (by kernel_rfl) (fun _ _ _ h => h) ?_ (by assumption) ?_
        rotate_left 1
        · first | (apply Or.inl; constructor; rfl; intro W hSw; obtain ⟨s1, s2, s3⟩ := (hSe W).1 hSw; go_simp; try (with_reducible rfl)) | (apply Or.inr; constructor; rfl; rfl)
        try simp only [Act.put, List.getElem_toArray, List.getElem_cons_succ, List.getElem_cons_zero, List.setIfInBounds_toArray, List.set_cons_zero, List.set_cons_succ]
        refine wpAnyH_take (i := 4) (v := ?_) rfl (by kernel_rfl) (by kernel_rfl) (by kernel_rfl) (fun _ _ _ h => h) ?_ (by assumption) ?_
        rotate_left 1
        · first | (apply Or.inl; constructor; rfl; intro W hSw; obtain ⟨s1, s2, s3⟩ := (hSe W).1 hSw; go_simp; try (with_reducible rfl)) | (apply Or.inr; constructor; rfl; rfl)
        try simp only [Act.put, List.getElem_toArray, List.getElem_cons_succ, List.getElem_cons_zero, List.setIfInBounds_toArray, List.set_cons_zero, List.set_cons_succ]
        refine wpAnyH_take (i := 5) (v := ?_) rfl (by kernel_rfl) (by kernel_rfl) (by kernel_rfl) (fun _ _ _ h => h) ?_ (by assumption) ?_
        rotate_left 1
        · first | (apply Or.inl; constructor; rfl; intro W hSw; obtain ⟨s1, s2, s3⟩ := (hSe W).1 hSw; go_simp; try (with_reducible rfl)) | (apply Or.inr; constructor; rfl; rfl)
        try simp only [Act.put, List.getElem_toArray, List.getElem_cons_succ, List.getElem_cons_zero, List.setIfInBounds_toArray, List.set_cons_zero, List.set_cons_succ]
        refine wpAnyH_take (i := 6) (v := ?_) rfl (by kernel_rfl) (by kernel_rfl) (by kernel_rfl) (fun _ _ _ h => h) ?_ (by assumption) ?_
        rotate_left 1
        · first | (apply Or.inl; constructor; rfl; intro W hSw; obtain ⟨s1, s2, s3⟩ := (hSe W).1 hSw; go_simp; try (with_reducible rfl)) | (apply Or.inr; constructor; rfl; rfl)
        try simp only [Act.put, List.getElem_toArray, List.getElem_cons_succ, List.getElem_cons_zero, List.setIfInBounds_toArray, List.set_cons_zero, List.set_cons_succ]
        refine wpAnyH_take (i := 7) (v := ?_) rfl (by kernel_rfl) (by kernel_rfl) (by kernel_rfl) (fun _ _ _ h => h) ?_ (by assumption) ?_
        rotate_left 1
        · first | (apply Or.inl; constructor; rfl; intro W hSw; obtain ⟨s1, s2, s3⟩ := (hSe W).1 hSw; go_simp; try (with_reducible rfl)) | (apply Or.inr; constructor; rfl; rfl)
        try simp only [Act.put, List.getElem_toArray, List.getElem_cons_succ, List.getElem_cons_zero, List.setIfInBounds_toArray, List.set_cons_zero, List.set_cons_succ]
        refine wpAnyH_take (i := 8) (v := ?_) rfl (by kernel_rfl) (by kernel_rfl) (by kernel_rfl) (fun _ _ _ h => h) ?_ (by assumption) ?_
        rotate_left 1
        · first | (apply Or.inl; constructor; rfl; intro W hSw; obtain ⟨s1, s2, s3⟩ := (hSe W).1 hSw; go_simp; try (with_reducible rfl)) | (apply Or.inr; constructor; rfl; rfl)
        try simp only [Act.put, List.getElem_toArray, List.getElem_cons_succ, List.getElem_cons_zero, List.setIfInBounds_toArray, List.set_cons_zero, List.set_cons_succ]
        refine wpAnyH_take (i := 9) (v := ?_) rfl (by kernel_rfl) (by kernel_rfl) (by kernel_rfl) (fun _ _ _ h => h) ?_ (by assumption) ?_
        rotate_left 1
        · first | (apply Or.inl; constructor; rfl; intro W hSw; obtain ⟨s1, s2, s3⟩ := (hSe W).1 hSw; go_simp; try (with_reducible rfl)) | (apply Or.inr; constructor; rfl; rfl)
        try simp only [Act.put, List.getElem_toArray, List.getElem_cons_succ, List.getElem_cons_zero, List.setIfInBounds_toArray, List.set_cons_zero, List.set_cons_succ]
        refine wpAnyH_ready (rs := [10]) (by kernel_rfl) (by simp) ?_
        refine AllReadyH.cons rfl (fun K hK => ?_) AllReadyH.nil
        go_simp
        have h5k : Keeps [] w4 (w4.drew.alloc (.cells #[.int .i64 id, .bool rd, .bool wr_, .bool ed, .int .i64 0, .int .i64 0] 153)) := (Keeps.refl [] w4.drew).pre1.alloc _
        have h5b := Blk.new w4.drew 153 #[.int .i64 id, .bool rd, .bool wr_, .bool ed, .int .i64 0, .int .i64 0]
        refine hK.out _ _ ((hSe _).2 ⟨cell_keep h5k (by simp) g3, cell_keep h5k (by simp) g0, cell_keep h5k (by simp) g1⟩) (fun hHeld => ?_)
        clear hK K
        try simp only [Act.put, List.getElem_toArray, List.getElem_cons_succ, List.getElem_cons_zero, List.setIfInBounds_toArray, List.set_cons_zero, List.set_cons_succ]
        refine wpAnyH_ready (rs := [11]) (by kernel_rfl) (by simp) ?_
        refine AllReadyH.cons rfl (fun K hK => ?_) AllReadyH.nil
        have k31 : Keeps Fs w wr := HK3.out.mono (by simp)
        have k71 : Keeps Fs w3 w4 := HK7.out.mono (by simp)
        have hkA : Keeps Fs w w4 := (k31.trans HK6.out (by simp +contextual)).trans k71 (by simp +contextual)
        have k51 : Keeps Fs w4 (w4.drew.alloc (.cells #[.int .i64 id, .bool rd, .bool wr_, .bool ed, .int .i64 0, .int .i64 0] 153)) := h5k.mono (by simp)
        have hkB : Keeps Fs w (w4.drew.alloc (.cells #[.int .i64 id, .bool rd, .bool wr_, .bool ed, .int .i64 0, .int .i64 0] 153)) := hkA.trans k51 (by simp +contextual)
        obtain ⟨w6, hrun, hm6, hk6⟩ := run_storeH (w := (w4.alloc (.cells #[.int .i64 id, .bool rd, .bool wr_, .bool ed, .int .i64 0, .int .i64 0] 153)).drew) (H.out.map.keeps hkB (fun hx => (H.out.d2 _ hx).2.1 rfl)) ((freeAt L : Nat) : Int) (putG L) w4.heap.size (find_none H.out.fresh)
        go_simp
        have hmw5 : m < w.heap.size := H.out.map.lt
        have hsz3 := HK3.out.size
        have hsz6 := HK6.out.size
        have hsz7 := HK7.out.size
        have hpm : pb ≠ m := fun e => H.out.apart.1 e.symm
        refine hK.out _ _ ((hSe _).2 ⟨cell_keep hk6 (by simpa using hpm) (cell_keep h5k (by simp) g3), cell_keep hk6 (by simp; omega) (cell_keep h5k (by simp) g0), cell_keep hk6 (by simp; omega) (cell_keep h5k (by simp) g1)⟩) (fun hHeld => ?_)
        clear hK K
        refine wpAnyH_done (by kernel_rfl) ?_ _
        have j0 := cell_keep hk6 (by simp; omega) (cell_keep h5k (by simp) g0)
        have j1 := cell_keep hk6 (by simp; omega) (cell_keep h5k (by simp) g1)
        have hkC : Keeps Fs wr (w4.drew.alloc (.cells #[.int .i64 id, .bool rd, .bool wr_, .bool ed, .int .i64 0, .int .i64 0] 153)) := (HK6.out.trans k71 (by simp +contextual)).trans k51 (by simp +contextual)
        have hbR := (HB2.out.keeps hkC (fun hx => by have := H.out.slab.flt _ hx; omega)).keeps hk6 (by simp; omega)
        have r0 := hbR.cell 0
        have r1 := hbR.cell 1
        have f0 := hbR.frozen 0
        have f1 := hbR.frozen 1
        simp at r0 r1
        have hadd := (H.out.next HK3.out).add (d := ⟨id, rd, wr_, ed, 0, 0⟩) HS3.out HLA.out HK6.out (HK7.out.trans h5k (by simp)) hsz7 h5b hm6 hk6
        have hkD : Keeps (m :: Fs) w w6 := (hkB.mono (by simp +contextual)).trans hk6 (by simp)
        have HAD := hid hadd
        have HKD := hid hkD
        have HW6 := hid hk6
        clear hadd hkD hbR hkC hm6 hk6 hrun hkB hkA h5b
        go_wp2_with fail
        refine bodyPost_ret (v := .tuple #[.agg #[.int .i64 (freeAt L : Nat), .int .i64 (putG L)], .int .i64 0]) (by simp [results, Try.results50, go_sem, r0, r1]) rfl ?_
        rw [← HP.out]
        have hlt := (H.out.apart).2.2.1
        have hK2 : ∀ k ∈ [w.heap.size], k ≠ pb ∧ k ∉ Fn ∧ k ∉ Fs' ∧ k ≠ m ∧ ∀ x ∈ es ++ [((⟨(freeAt L : Nat), putG L, w4.heap.size, clock⟩ : PE), (⟨id, rd, wr_, ed, 0, 0⟩ : Wd))], k ≠ x.1.p := by
          intro k hk
          simp at hk
          subst hk
          refine ⟨by omega, fun hx => by have := H.out.net.flt _ hx; omega, fun hx => ?_, by omega, fun x hx => ?_⟩
          · rcases HLA.out _ hx with e | e
            · have := H.out.slab.flt _ e
              omega
            · have := HB2.out.lt
              omega
          · simp only [List.mem_append, List.mem_singleton] at hx
            rcases hx with hx | rfl
            · have := H.out.apart.2.2.2.2 x hx
              omega
            · have := HB2.out.lt
              simp
              omega
        have hB2 := HB2.out.lt
        refine .inr ⟨fun x hx => ?_, rfl, ⟨_, ⟨s, m, Fn, Fs', _, _, HAD.out.keeps (((Keeps.refl [w.heap.size] w6).setCell (p := ⟨w.heap.size, 0, none⟩) (.inl (by simp)) _).setCell (p := ⟨w.heap.size, 1, none⟩) (.inl (by simp)) _) hK2, ?_, rfl⟩, fun k hk => ?_⟩, ((HKD.out.mono (by simp +contextual)).setCell (p := ⟨w.heap.size, 0, none⟩) (.inr (Nat.le_refl _)) _).setCell (p := ⟨w.heap.size, 1, none⟩) (.inr (Nat.le_refl _)) _⟩
        · rw [HDS.out] at hx
          obtain ⟨y, hy, rfl⟩ := List.mem_map.1 hx
          exact HN1.out y hy
        · rw [HDS.out]
          simp
        · simp only [List.mem_cons, List.mem_append, List.map_append, List.map_cons, List.map_nil, List.not_mem_nil, or_false] at hk ⊢
          rcases hk with hk | hk | hk | hk | hk | hk
          · exact .inl (.inl hk)
          · exact .inl (.inr (.inl hk))
          · exact .inl (.inr (.inr (.inl hk)))
          · rcases HLA.out k hk with e | e
            · exact .inl (.inr (.inr (.inr (.inl e))))
            · exact .inr (by omega)
          · exact .inl (.inr (.inr (.inr (.inr hk))))
          · exact .inr (by omega)
      · intro y d hy hsn w2 hr2 hk2 hen
        have c0 := (H.out.at_ (y, d) hy).cell 0
        simp [wcells] at c0
        have hk4 : Keeps [] w w2 := HK3.out.trans hk2 (by simp; have := HK1.out.size; omega)
        have e0 := cell_keep hk4 (by simp) c0
        have HHX := hid hy
        have HK4 := hid hk4
        have HR2 := hid hr2
        have HSN := hid hsn
        have hk5 : Keeps [] w1 w2 := HKR.out.trans hk2 (by simp)
        have HK5 := hid hk5
        clear hy hk2 hk4 hr2 hsn hk5 c0
        by_cases hxi : d.id = id
        · have hxi' := hid hxi
          have hq : (d.id == id) = true := by simpa using hxi
          clear hxi
          have hb2 := HB1.out.keeps HK5.out (by simp)
          have r0 := hb2.cell 0
          have r1 := hb2.cell 1
          simp at r0 r1
          have f0 := hb2.frozen 0
          have f1 := hb2.frozen 1
          clear hb2
          go_wp2_with fail
          refine bodyPost_ret (v := .tuple #[.agg #[.int .i64 0, .int .i64 0], .int .i64 11]) (by simp [results, Try.results50, go_sem, r0, r1]) rfl ?_
          rw [← HP.out]
          refine .inl ⟨⟨((y.s, y.g), d), by rw [HDS.out]; exact List.mem_map.2 ⟨_, HHX.out, rfl⟩, hxi'.out⟩, rfl, by (repeat (first | exact HK4.out | exact .inr (Nat.le_refl _) | apply Keeps.drewN | apply Keeps.alloc | apply Keeps.setCell))⟩
        · have hxi' := hid hxi
          have hq : (d.id == id) = false := by simpa using hxi
          clear hxi
          go_wp2_with fail
          go_roundw
          case rel =>
            refine ⟨rfl, seen.push y.b, HR2.out, fun z hz hc => ?_, HK5.out⟩
            simp at hc
            rcases hc with hc | hc
            · exact HNO.out z hz (by simpa using hc)
            · have hq2 : z = (y, d) := nodup_inj (f := fun x : PX => x.1.b) H.out.bn hz HHX.out (by simpa using hc)
              rw [hq2]
              exact hxi'.out
          case measure =>
            rw [HR2.out, HR.out]
            exact unseen_lt HHX.out (by simpa using HSN.out)
end Go.Proofs.Ytkeffebcmajhmaa
