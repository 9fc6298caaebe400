/- The poller: Watch by contract. -/
import Derived.Test.YtkeffebcmajhmaaPq19
namespace Go.Proofs.Ytkeffebcmajhmaa
open Go.RowKit
set_option linter.unusedVariables false
set_option linter.unusedSimpArgs false
def WatchNo (w : World) (c : Int) (e : Ending) (w' : World) : Prop := e = .returned (.tuple #[.agg #[.int .i64 0, .int .i64 0], .int .i64 c]) ∧ Keeps [] w w'
theorem state_field (a b c : Bool) (d : Int) (w : World) : (Instr.field 112 (.agg #[.bool a, .bool b, .bool c, .int .i64 d]) 1).run Try.prog w = .ok (.bool b) w := by kernel_rfl
set_option maxRecDepth 100000 in
set_option maxHeartbeats 4000000 in
theorem watch_bad (pb n : Nat) (F : List Nat) (N : NS) (L : List Slot) (ds : List ((Int × Int) × Wd)) (id : Int) (rd wr_ ed : Bool) (w : World) (h : PRep w pb n F N L ds) (h1 : id ≠ -1) (h2 : (stateN N id).2.1 = false) :
    Calls Try.prog 50 #[.pointer (some ⟨pb, 0, none⟩), .int .i64 id, .bool rd, .bool wr_, .bool ed] w (WatchNo w 2) := by
  obtain ⟨s, m, Fn, Fs, es, clock, h, hds, rfl⟩ := h
  have p0 := h.blk.cell 0
  simp [pcells] at p0
  have HN := hid h.net
  have hne : (id != -1) = true := by simpa using h1
  clear h hds
  have q0 := fun o => alloc_cell p0 o
  have h2 := hid h2
  have HB := hid (Blk.new w 30 #[.int .i64 0, .int .i64 0])
  have hfld := state_field
  go_enter Try.func50, Try.ntmps50
  go_wp2_with (go_at_call 65; refine (state_any n Fn N id _ (HN.out.keeps ((Keeps.refl [] w).alloc _) (by simp))).mono ?_; rw [h2.out]; rintro e w1 ⟨rfl, hk1⟩; have hb1 := HB.out.keeps hk1 (by simp); have r0 := hb1.cell 0; have r1 := hb1.cell 1; have f0 := hb1.frozen 0; have f1 := hb1.frozen 1; have hk2 := ((Keeps.refl [] w).alloc _).trans hk1 (by simp); have HK2 := hid hk2; clear hk1 hk2 hb1; simp at r0 r1)
  exact bodyPost_ret (v := .tuple #[.agg #[.int .i64 0, .int .i64 0], .int .i64 2]) (by simp [results, Try.results50, go_sem, r0, r1]) rfl ⟨rfl, by (repeat (first | exact HK2.out | exact Keeps.refl _ _ | exact .inr (Nat.le_refl _) | apply Keeps.drewN | apply Keeps.alloc | apply Keeps.setCell))⟩
def WatchYes (w : World) (pb n : Nat) (F : List Nat) (N : NS) (L : List Slot) (ds : List ((Int × Int) × Wd)) (d : Wd) (e : Ending) (w' : World) : Prop :=
  e = .returned (.tuple #[.agg #[.int .i64 (freeAt L : Nat), .int .i64 (putG L)], .int .i64 0]) ∧ (∃ F', PRep w' pb n F' N (putL L d.id) (ds ++ [((((freeAt L : Nat) : Int), putG L), d)]) ∧ LaterF F w F') ∧ Keeps F w w'
def WatchPost (w : World) (pb n : Nat) (F : List Nat) (N : NS) (L : List Slot) (ds : List ((Int × Int) × Wd)) (d : Wd) (e : Ending) (w' : World) : Prop :=
  (∃ x ∈ ds, x.2.id = d.id) ∧ WatchNo w 11 e w' ∨ (∀ x ∈ ds, x.2.id ≠ d.id) ∧ WatchYes w pb n F N L ds d e w'
set_option maxRecDepth 100000 in
set_option maxHeartbeats 8000000 in
/-- Watch, up to its range. -/
theorem watch_any (pb n : Nat) (F : List Nat) (N : NS) (L : List Slot) (ds : List ((Int × Int) × Wd)) (id : Int) (rd wr_ ed : Bool) (w : World) (h : PRep w pb n F N L ds) (h1 : id = -1 ∨ (stateN N id).2.1 = true) (hg : ∀ d ∈ L, 0 ≤ d.1 ∧ d.1 ≤ 1099511627776) (hL : L.length ≤ 1099511627776) (hd : ds.length < 4096) :
    Calls Try.prog 50 #[.pointer (some ⟨pb, 0, none⟩), .int .i64 id, .bool rd, .bool wr_, .bool ed] w (WatchPost w pb n F N L ds ⟨id, rd, wr_, ed, 0, 0⟩) := by
  obtain ⟨s, m, Fn, Fs, es, clock, h, hds, rfl⟩ := h
  have H := hid h
  have hel : es.length < 4096 := by rw [hds] at hd; simpa using hd
  have p0 := h.blk.cell 0
  have p1 := h.blk.cell 1
  have p2 := h.blk.cell 2
  simp [pcells] at p0 p1 p2
  have HDS := hid hds
  have HG := hid hg
  obtain ⟨POST, hPOST⟩ : ∃ P, WatchPost w pb n (pb :: m :: (Fn ++ (Fs ++ es.map (·.1.p)))) N L ds ⟨id, rd, wr_, ed, 0, 0⟩ = P := ⟨_, rfl⟩
  rw [hPOST]
  have HP := hid hPOST
  have hfld := state_field
  clear h hds hg hd hPOST
  have q0 := fun o => alloc_cell p0 o
  have q2 := fun o => alloc_cell p2 o
  have hb := Blk.new w 30 #[.int .i64 0, .int .i64 0]
  have HB := hid hb
  clear hb
  have h1 : (id != -1) = false ∨ ((id != -1) = true ∧ (stateN N id).2.1 = true) := by
    rcases h1 with rfl | h1
    · exact .inl rfl
    · cases hc : (id != -1)
      · exact .inl rfl
      · exact .inr ⟨rfl, h1⟩
  rcases h1 with hne | ⟨hne, hs⟩
  focus
    go_enter Try.func50, Try.ntmps50
    have hk1 := (Keeps.refl [] w).alloc (.cells #[.int .i64 0, .int .i64 0] 30)
    have HK1 := hid hk1
    have HB1 := HB
    clear hk1
    go_wp2_with (at_range; refine wpList_rangeH rfl _ rfl rfl (H.out.map.keeps HK1.out (by simp)) ?_)
    obtain ⟨w1, hw1⟩ : ∃ x, w.alloc (.cells #[.int .i64 0, .int .i64 0] 30) = x := ⟨_, rfl⟩
    rw [hw1] at HK1 HB1 ⊢
    clear hw1
  rotate_left 1
  focus
    have hs := hid hs
    go_enter Try.func50, Try.ntmps50
    go_wp2_with (first | (go_at_call 65; refine (state_any n Fn N id _ (H.out.net.keeps ((Keeps.refl [] w).alloc _) (by simp))).mono ?_; rw [hs.out]; rintro e w1 ⟨rfl, hk1⟩; have hb1 := HB.out.keeps hk1 (by simp); have hk2 := ((Keeps.refl [] w).alloc _).trans hk1 (by simp); have e2 := cell_keep hk2 (by simp) p2; have HK1 := hid hk2; have HB1 := hid hb1; clear hk1 hk2 hb1) | (at_range; refine wpList_rangeH rfl _ rfl rfl (H.out.map.keeps HK1.out (by simp)) ?_))
  all_goals
    go_frame
    have hz1 : w.heap.size < w1.heap.size := HB1.out.lt
    go_loopw [11, 13] (fun c _ wr => c = .int .i64 0 ∧ ∃ seen, wr.heap[w1.heap.size]? = some (.mapIter (some m) clock seen clock) ∧ (∀ x ∈ es, seen.contains x.1.b = true → x.2.id ≠ id) ∧ Keeps [] w1 wr) (fun _ _ wr => match wr.heap[w1.heap.size]? with | some (.mapIter _ _ seen _) => unseen es seen | _ => 0)
    case atStart => exact ⟨rfl, #[], heap_alloc_new _ _, by simp, (Keeps.refl [] w1).alloc _⟩
    case round =>
      obtain ⟨rfl, seen, hr, hno, hkr⟩ := hrel
      have HR := hid hr
      have HNO := hid hno
      have HKR := hid hkr
      clear hr hno hkr
      have hrm : w1.heap.size ≠ m := by have := H.out.map.lt; have := HK1.out.size; omega
      have hk3 : Keeps [] w wr := HK1.out.trans HKR.out (by simp)
      have HK3 := hid hk3
      clear hk3
      go_wp2_with (at_next; refine wpList_nextH rfl _ rfl rfl HR.out (H.out.map.keeps HK3.out (by simp)) (fun e he => by obtain ⟨x, hx, rfl⟩ := List.mem_map.1 he; exact H.out.born x hx) (by have := H.out.bn; simpa [List.map_map, Function.comp_def] using this) hrm ?_ ?_)
      · intro hall
        have hnone : ∀ x ∈ es, x.2.id ≠ id := fun x hx => HNO.out x hx (by simpa using hall x.1 x.2 hx)
        have HN1 := hid hnone
        clear hall hnone
        have e1 := cell_keep HK3.out (by simp) p1
        have e2 := cell_keep HK3.out (by simp) p2
        have hb2 := HB1.out.keeps HKR.out (by simp)
        have HB2 := hid hb2
        clear hb2
        have hnl : (((es.length : Nat) : Int) == 4096) = false := by simp; omega
        go_wp2_with (go_at_call 20; refine (sput_any s Fs 4096 es.length L id _ (H.out.slab.keeps HK3.out (by simp)) hnl HG.out hL (by omega) (by omega)).mono ?_; rintro e w3 ⟨rfl, ⟨Fs', hs3, hla⟩, hk3⟩; have HS3 := hid hs3; have HLA := hid hla; have HK6 := hid hk3; clear hs3 hla hk3)
        have e3 := cell_keep HK6.out (fun hx => (H.out.d2 _ hx).1 rfl) e2
        have g2 := fun o => alloc_cell e3 o
        have hh := Blk.new w3 30 #[.int .i64 (freeAt L : Nat), .int .i64 (putG L)]
        have HH := hid hh
        obtain ⟨w4, hw4⟩ : ∃ x, w3.alloc (.cells #[.int .i64 (freeAt L : Nat), .int .i64 (putG L)] 30) = x := ⟨_, rfl⟩
        have hk7 : Keeps [] w3 w4 := by rw [← hw4]; exact (Keeps.refl [] w3).alloc _
        have HK7 := hid hk7
        have g3 := g2 (.cells #[.int .i64 (freeAt L : Nat), .int .i64 (putG L)] 30)
        rw [hw4] at HH g3 ⊢
        have g0 := HH.out.cell 0
        have g1 := HH.out.cell 1
        simp at g0 g1
        clear g2 hh hk7 hw4 e3
        obtain ⟨S, hSe⟩ : ∃ S : World → Prop, ∀ w', S w' ↔ (w'.cell? ⟨pb, 2, none⟩ = some (.map (some m)) ∧ w'.cell? ⟨w3.heap.size, 0, none⟩ = some (.int .i64 (freeAt L : Nat)) ∧ w'.cell? ⟨w3.heap.size, 1, none⟩ = some (.int .i64 (putG L))) := ⟨_, fun _ => Iff.rfl⟩
        have hSw1 : S w4.drew := (hSe _).2 ⟨g3, g0, g1⟩
        refine wp_region_held_drew (S := S) (by kernel_rfl) hSw1 (fun hHeld => ?_)
        refine wpAnyH_take (i := 0) (v := ?_) rfl (by kernel_rfl) (by kernel_rfl) (by kernel_rfl) (fun _ _ _ h => h) ?_ (by assumption) ?_
        rotate_left 1
        · first | (apply Or.inl; constructor; rfl; intro W hSw; obtain ⟨s1, s2, s3⟩ := (hSe W).1 hSw; go_simp; try (with_reducible rfl)) | (apply Or.inr; constructor; rfl; rfl)
        try simp only [Act.put, List.getElem_toArray, List.getElem_cons_succ, List.getElem_cons_zero, List.setIfInBounds_toArray, List.set_cons_zero, List.set_cons_succ]
        refine wpAnyH_take (i := 1) (v := ?_) rfl (by kernel_rfl) (by kernel_rfl) (by kernel_rfl) (fun _ _ _ h => h) ?_ (by assumption) ?_
        rotate_left 1
        · first | (apply Or.inl; constructor; rfl; intro W hSw; obtain ⟨s1, s2, s3⟩ := (hSe W).1 hSw; go_simp; try (with_reducible rfl)) | (apply Or.inr; constructor; rfl; rfl)
        try simp only [Act.put, List.getElem_toArray, List.getElem_cons_succ, List.getElem_cons_zero, List.setIfInBounds_toArray, List.set_cons_zero, List.set_cons_succ]
        refine wpAnyH_take (i := 2) (v := ?_) rfl (by kernel_rfl) (by kernel_rfl) (by kernel_rfl) (fun _ _ _ h => h) ?_ (by assumption) ?_
        rotate_left 1
        · first | (apply Or.inl; constructor; rfl; intro W hSw; obtain ⟨s1, s2, s3⟩ := (hSe W).1 hSw; go_simp; try (with_reducible rfl)) | (apply Or.inr; constructor; rfl; rfl)
        try simp only [Act.put, List.getElem_toArray, List.getElem_cons_succ, List.getElem_cons_zero, List.setIfInBounds_toArray, List.set_cons_zero, List.set_cons_succ]
        refine wpAnyH_take (i := 3) (v := ?_) rfl (by kernel_rfl) (by kernel_rfl) (by kernel_rfl) (fun _ _ _ h => h) ?_ (by assumption) ?_
        rotate_left 1
        · first | (apply Or.inl; constructor; rfl; intro W hSw; obtain ⟨s1, s2, s3⟩ := (hSe W).1 hSw; go_simp; try (with_reducible rfl)) | (apply Or.inr; constructor; rfl; rfl)
        try simp only [Act.put, List.getElem_toArray, List.getElem_cons_succ, List.getElem_cons_zero, List.setIfInBounds_toArray, List.set_cons_zero, List.set_cons_succ]
        refine wpAnyH_take (i := 4) (v := ?_) rfl (by kernel_rfl) (by kernel_rfl) (by kernel_rfl) (fun _ _ _ h => h) ?_ (by assumption) ?_
        rotate_left 1
        · first | (apply Or.inl; constructor; rfl; intro W hSw; obtain ⟨s1, s2, s3⟩ := (hSe W).1 hSw; go_simp; try (with_reducible rfl)) | (apply Or.inr; constructor; rfl; rfl)
        try simp only [Act.put, List.getElem_toArray, List.getElem_cons_succ, List.getElem_cons_zero, List.setIfInBounds_toArray, List.set_cons_zero, List.set_cons_succ]
        refine wpAnyH_take (i := 5) (v := ?_) rfl (by kernel_rfl) (by kernel_rfl) (by kernel_rfl) (fun _ _ _ h => h) ?_ (by assumption) ?_
        rotate_left 1
        · first | (apply Or.inl; constructor; rfl; intro W hSw; obtain ⟨s1, s2, s3⟩ := (hSe W).1 hSw; go_simp; try (with_reducible rfl)) | (apply Or.inr; constructor; rfl; rfl)
        try simp only [Act.put, List.getElem_toArray, List.getElem_cons_succ, List.getElem_cons_zero, List.setIfInBounds_toArray, List.set_cons_zero, List.set_cons_succ]
        refine wpAnyH_take (i := 6) (v := ?_) rfl (by kernel_rfl) (by kernel_rfl) (by kernel_rfl) (fun _ _ _ h => h) ?_ (by assumption) ?_
        rotate_left 1
        · first | (apply Or.inl; constructor; rfl; intro W hSw; obtain ⟨s1, s2, s3⟩ := (hSe W).1 hSw; go_simp; try (with_reducible rfl)) | (apply Or.inr; constructor; rfl; rfl)
        try simp only [Act.put, List.getElem_toArray, List.getElem_cons_succ, List.getElem_cons_zero, List.setIfInBounds_toArray, List.set_cons_zero, List.set_cons_succ]
        refine wpAnyH_take (i := 7) (v := ?_) rfl (by kernel_rfl) (by kernel_rfl) (by kernel_rfl) (fun _ _ _ h => h) ?_ (by assumption) ?_
        rotate_left 1
        · first | (apply Or.inl; constructor; rfl; intro W hSw; obtain ⟨s1, s2, s3⟩ := (hSe W).1 hSw; go_simp; try (with_reducible rfl)) | (apply Or.inr; constructor; rfl; rfl)
        try simp only [Act.put, List.getElem_toArray, List.getElem_cons_succ, List.getElem_cons_zero, List.setIfInBounds_toArray, List.set_cons_zero, List.set_cons_succ]
        refine wpAnyH_take (i := 8) (v := ?_) rfl (by kernel_rfl) (by kernel_rfl) (by kernel_rfl) (fun _ _ _ h => h) ?_ (by assumption) ?_
        rotate_left 1
        · first | (apply Or.inl; constructor; rfl; intro W hSw; obtain ⟨s1, s2, s3⟩ := (hSe W).1 hSw; go_simp; try (with_reducible rfl)) | (apply Or.inr; constructor; rfl; rfl)
        try simp only [Act.put, List.getElem_toArray, List.getElem_cons_succ, List.getElem_cons_zero, List.setIfInBounds_toArray, List.set_cons_zero, List.set_cons_succ]
        refine wpAnyH_take (i := 9) (v := ?_) rfl (by kernel_rfl) (by kernel_rfl) (by kernel_rfl) (fun _ _ _ h => h) ?_ (by assumption) ?_
        rotate_left 1
        · first | (apply Or.inl; constructor; rfl; intro W hSw; obtain ⟨s1, s2, s3⟩ := (hSe W).1 hSw; go_simp; try (with_reducible rfl)) | (apply Or.inr; constructor; rfl; rfl)
        try simp only [Act.put, List.getElem_toArray, List.getElem_cons_succ, List.getElem_cons_zero, List.setIfInBounds_toArray, List.set_cons_zero, List.set_cons_succ]
        refine wpAnyH_ready (rs := [10]) (by kernel_rfl) (by simp) ?_
        refine AllReadyH.cons rfl (fun K hK => ?_) AllReadyH.nil
        go_simp
        have h5k : Keeps [] w4 (w4.drew.alloc (.cells #[.int .i64 id, .bool rd, .bool wr_, .bool ed, .int .i64 0, .int .i64 0] 153)) := (Keeps.refl [] w4.drew).pre1.alloc _
        have h5b := Blk.new w4.drew 153 #[.int .i64 id, .bool rd, .bool wr_, .bool ed, .int .i64 0, .int .i64 0]
        refine hK.out _ _ ((hSe _).2 ⟨cell_keep h5k (by simp) g3, cell_keep h5k (by simp) g0, cell_keep h5k (by simp) g1⟩) (fun hHeld => ?_)
        clear hK K
        try simp only [Act.put, List.getElem_toArray, List.getElem_cons_succ, List.getElem_cons_zero, List.setIfInBounds_toArray, List.set_cons_zero, List.set_cons_succ]
        refine wpAnyH_ready (rs := [11]) (by kernel_rfl) (by simp) ?_
        refine AllReadyH.cons rfl (fun K hK => ?_) AllReadyH.nil
        have k31 : Keeps Fs w wr := HK3.out.mono (by simp)
        have k71 : Keeps Fs w3 w4 := HK7.out.mono (by simp)
        have hkA : Keeps Fs w w4 := (k31.trans HK6.out (by simp +contextual)).trans k71 (by simp +contextual)
        have k51 : Keeps Fs w4 (w4.drew.alloc (.cells #[.int .i64 id, .bool rd, .bool wr_, .bool ed, .int .i64 0, .int .i64 0] 153)) := h5k.mono (by simp)
        have hkB : Keeps Fs w (w4.drew.alloc (.cells #[.int .i64 id, .bool rd, .bool wr_, .bool ed, .int .i64 0, .int .i64 0] 153)) := hkA.trans k51 (by simp +contextual)
        obtain ⟨w6, hrun, hm6, hk6⟩ := run_storeH (w := (w4.alloc (.cells #[.int .i64 id, .bool rd, .bool wr_, .bool ed, .int .i64 0, .int .i64 0] 153)).drew) (H.out.map.keeps hkB (fun hx => (H.out.d2 _ hx).2.1 rfl)) ((freeAt L : Nat) : Int) (putG L) w4.heap.size (find_none H.out.fresh)
        go_simp
        have hmw5 : m < w.heap.size := H.out.map.lt
        have hsz3 := HK3.out.size
        have hsz6 := HK6.out.size
        have hsz7 := HK7.out.size
        have hpm : pb ≠ m := fun e => H.out.apart.1 e.symm
        refine hK.out _ _ ((hSe _).2 ⟨cell_keep hk6 (by simpa using hpm) (cell_keep h5k (by simp) g3), cell_keep hk6 (by simp; omega) (cell_keep h5k (by simp) g0), cell_keep hk6 (by simp; omega) (cell_keep h5k (by simp) g1)⟩) (fun hHeld => ?_)
        clear hK K
        refine wpAnyH_done (by kernel_rfl) ?_ _
        have j0 := cell_keep hk6 (by simp; omega) (cell_keep h5k (by simp) g0)
        have j1 := cell_keep hk6 (by simp; omega) (cell_keep h5k (by simp) g1)
        have hkC : Keeps Fs wr (w4.drew.alloc (.cells #[.int .i64 id, .bool rd, .bool wr_, .bool ed, .int .i64 0, .int .i64 0] 153)) := (HK6.out.trans k71 (by simp +contextual)).trans k51 (by simp +contextual)
        have hbR := (HB2.out.keeps hkC (fun hx => by have := H.out.slab.flt _ hx; omega)).keeps hk6 (by simp; omega)
        have r0 := hbR.cell 0
        have r1 := hbR.cell 1
        have f0 := hbR.frozen 0
        have f1 := hbR.frozen 1
        simp at r0 r1
        have hadd := (H.out.next HK3.out).add (d := ⟨id, rd, wr_, ed, 0, 0⟩) HS3.out HLA.out HK6.out (HK7.out.trans h5k (by simp)) hsz7 h5b hm6 hk6
        have hkD : Keeps (m :: Fs) w w6 := (hkB.mono (by simp +contextual)).trans hk6 (by simp)
        have HAD := hid hadd
        have HKD := hid hkD
        have HW6 := hid hk6
        clear hadd hkD hbR hkC hm6 hk6 hrun hkB hkA h5b
        go_wp2_with fail
        refine bodyPost_ret (v := .tuple #[.agg #[.int .i64 (freeAt L : Nat), .int .i64 (putG L)], .int .i64 0]) (by simp [results, Try.results50, go_sem, r0, r1]) rfl ?_
        rw [← HP.out]
        have hlt := (H.out.apart).2.2.1
        have hK2 : ∀ k ∈ [w.heap.size], k ≠ pb ∧ k ∉ Fn ∧ k ∉ Fs' ∧ k ≠ m ∧ ∀ x ∈ es ++ [((⟨(freeAt L : Nat), putG L, w4.heap.size, clock⟩ : PE), (⟨id, rd, wr_, ed, 0, 0⟩ : Wd))], k ≠ x.1.p := by
          intro k hk
          simp at hk
          subst hk
          refine ⟨by omega, fun hx => by have := H.out.net.flt _ hx; omega, fun hx => ?_, by omega, fun x hx => ?_⟩
          · rcases HLA.out _ hx with e | e
            · have := H.out.slab.flt _ e
              omega
            · have := HB2.out.lt
              omega
          · simp only [List.mem_append, List.mem_singleton] at hx
            rcases hx with hx | rfl
            · have := H.out.apart.2.2.2.2 x hx
              omega
            · have := HB2.out.lt
              simp
              omega
        have hB2 := HB2.out.lt
        refine .inr ⟨fun x hx => ?_, rfl, ⟨_, ⟨s, m, Fn, Fs', _, _, HAD.out.keeps (((Keeps.refl [w.heap.size] w6).setCell (p := ⟨w.heap.size, 0, none⟩) (.inl (by simp)) _).setCell (p := ⟨w.heap.size, 1, none⟩) (.inl (by simp)) _) hK2, ?_, rfl⟩, fun k hk => ?_⟩, ((HKD.out.mono (by simp +contextual)).setCell (p := ⟨w.heap.size, 0, none⟩) (.inr (Nat.le_refl _)) _).setCell (p := ⟨w.heap.size, 1, none⟩) (.inr (Nat.le_refl _)) _⟩
        · rw [HDS.out] at hx
          obtain ⟨y, hy, rfl⟩ := List.mem_map.1 hx
          exact HN1.out y hy
        · rw [HDS.out]
          simp
        · simp only [List.mem_cons, List.mem_append, List.map_append, List.map_cons, List.map_nil, List.not_mem_nil, or_false] at hk ⊢
          rcases hk with hk | hk | hk | hk | hk | hk
          · exact .inl (.inl hk)
          · exact .inl (.inr (.inl hk))
          · exact .inl (.inr (.inr (.inl hk)))
          · rcases HLA.out k hk with e | e
            · exact .inl (.inr (.inr (.inr (.inl e))))
            · exact .inr (by omega)
          · exact .inl (.inr (.inr (.inr (.inr hk))))
          · exact .inr (by omega)
      · intro y d hy hsn w2 hr2 hk2 hen
        have c0 := (H.out.at_ (y, d) hy).cell 0
        simp [wcells] at c0
        have hk4 : Keeps [] w w2 := HK3.out.trans hk2 (by simp; have := HK1.out.size; omega)
        have e0 := cell_keep hk4 (by simp) c0
        have HHX := hid hy
        have HK4 := hid hk4
        have HR2 := hid hr2
        have HSN := hid hsn
        have hk5 : Keeps [] w1 w2 := HKR.out.trans hk2 (by simp)
        have HK5 := hid hk5
        clear hy hk2 hk4 hr2 hsn hk5 c0
        by_cases hxi : d.id = id
        · have hxi' := hid hxi
          have hq : (d.id == id) = true := by simpa using hxi
          clear hxi
          have hb2 := HB1.out.keeps HK5.out (by simp)
          have r0 := hb2.cell 0
          have r1 := hb2.cell 1
          simp at r0 r1
          have f0 := hb2.frozen 0
          have f1 := hb2.frozen 1
          clear hb2
          go_wp2_with fail
          refine bodyPost_ret (v := .tuple #[.agg #[.int .i64 0, .int .i64 0], .int .i64 11]) (by simp [results, Try.results50, go_sem, r0, r1]) rfl ?_
          rw [← HP.out]
          refine .inl ⟨⟨((y.s, y.g), d), by rw [HDS.out]; exact List.mem_map.2 ⟨_, HHX.out, rfl⟩, hxi'.out⟩, rfl, by (repeat (first | exact HK4.out | exact .inr (Nat.le_refl _) | apply Keeps.drewN | apply Keeps.alloc | apply Keeps.setCell))⟩
        · have hxi' := hid hxi
          have hq : (d.id == id) = false := by simpa using hxi
          clear hxi
          go_wp2_with fail
          go_roundw
          case rel =>
            refine ⟨rfl, seen.push y.b, HR2.out, fun z hz hc => ?_, HK5.out⟩
            simp at hc
            rcases hc with hc | hc
            · exact HNO.out z hz (by simpa using hc)
            · have hq2 : z = (y, d) := nodup_inj (f := fun x : PX => x.1.b) H.out.bn hz HHX.out (by simpa using hc)
              rw [hq2]
              exact hxi'.out
          case measure =>
            rw [HR2.out, HR.out]
            exact unseen_lt HHX.out (by simpa using HSN.out)
end Go.Proofs.Ytkeffebcmajhmaa
/- The laws' events by contract. -/
namespace Go.Proofs.Ytkeffebcmajhmaa
open Go.RowKit
set_option linter.unusedVariables false
set_option linter.unusedSimpArgs false
/-- an Event: Handle, id, read, write. -/
abbrev Ev := (Int × Int) × Int × Bool × Bool
def evV (e : Ev) : List Value := [.int .i64 e.1.1, .int .i64 e.1.2, .int .i64 e.2.1, .bool e.2.2.1, .bool e.2.2.2]
def evA (e : Ev) : Value := .agg #[.int .i64 e.1.1, .int .i64 e.1.2, .int .i64 e.2.1, .bool e.2.2.1, .bool e.2.2.2]
def evsV (l : List Ev) : List Value := l.flatMap evV
theorem evsV_length (l : List Ev) : (evsV l).length = l.length * 5 := by
  induction l with
  | nil => rfl
  | cons d l ih => simp only [evsV, evV, List.flatMap_cons, List.length_append, List.length_cons, List.length_nil] at ih ⊢; omega
theorem evsV_append (a b : List Ev) : evsV (a ++ b) = evsV a ++ evsV b := by simp [evsV]
theorem evsV_get (l : List Ev) (k : Nat) (e : Ev) (he : l[k]? = some e) : (evsV l)[k * 5]? = some (.int .i64 e.1.1) ∧ (evsV l)[k * 5 + 1]? = some (.int .i64 e.1.2) ∧ (evsV l)[k * 5 + 2]? = some (.int .i64 e.2.1) ∧ (evsV l)[k * 5 + 3]? = some (.bool e.2.2.1) ∧ (evsV l)[k * 5 + 4]? = some (.bool e.2.2.2) := by
  induction l generalizing k with
  | nil => simp at he
  | cons d l ih =>
    cases k with
    | zero => simp at he; subst he; simp [evsV, evV]
    | succ k =>
      have h' := ih k (by simpa using he)
      have e0 : (k + 1) * 5 = k * 5 + 1 + 1 + 1 + 1 + 1 := by omega
      have e1 : (k + 1) * 5 + 1 = (k * 5 + 1) + 1 + 1 + 1 + 1 + 1 := by omega
      have e2 : (k + 1) * 5 + 2 = (k * 5 + 2) + 1 + 1 + 1 + 1 + 1 := by omega
      have e3 : (k + 1) * 5 + 3 = (k * 5 + 3) + 1 + 1 + 1 + 1 + 1 := by omega
      have e4 : (k + 1) * 5 + 4 = (k * 5 + 4) + 1 + 1 + 1 + 1 + 1 := by omega
      rw [e1, e2, e3, e4, e0]
      simp only [evsV, evV, List.flatMap_cons, List.cons_append, List.nil_append] at h' ⊢
      refine ⟨?_, ?_, ?_, ?_, ?_⟩
      · simpa using h'.1
      · simpa using h'.2.1
      · simpa using h'.2.2.1
      · simpa using h'.2.2.2.1
      · simpa using h'.2.2.2.2
def EvAt (w : World) (b o : Nat) (e : Ev) : Prop := w.cell? ⟨b, o, none⟩ = some (.int .i64 e.1.1) ∧ w.cell? ⟨b, o + 1, none⟩ = some (.int .i64 e.1.2) ∧ w.cell? ⟨b, o + 2, none⟩ = some (.int .i64 e.2.1) ∧ w.cell? ⟨b, o + 3, none⟩ = some (.bool e.2.2.1) ∧ w.cell? ⟨b, o + 4, none⟩ = some (.bool e.2.2.2)
/-- v is a slice of Events. -/
def EvIn (w : World) (F : List Nat) (v : Value) (l : List Ev) : Prop :=
  ∃ A c, v = .slice A l.length c ∧ l.length ≤ c ∧ c ≤ maxLen ∧ (0 < l.length → ∃ b o, A = some ⟨b, o, none⟩ ∧ b ∉ F ∧ ∀ j e, l[j]? = some e → EvAt w b (o + j * 5) e)
theorem EvIn.keeps {w w' : World} {F G : List Nat} {v : Value} {l : List Ev} (h : EvIn w F v l) (hk : Keeps G w w') (hG : ∀ x ∈ G, x ∈ F ∨ w.heap.size ≤ x) : EvIn w' F v l := by
  obtain ⟨A, c, hv, h1, h2, h3⟩ := h
  refine ⟨A, c, hv, h1, h2, fun hp => ?_⟩
  obtain ⟨b, o, hA, hb, hc⟩ := h3 hp
  refine ⟨b, o, hA, hb, fun j u hu => ?_⟩
  obtain ⟨c1, c2, c3, c4, c5⟩ := hc j u hu
  have hlt := World.block_lt_of_cell? w _ c1
  have hbG : b ∉ G := fun hx => (hG _ hx).elim hb (fun h5 => absurd hlt (Nat.not_lt.2 h5))
  exact ⟨cell_keep hk hbG c1, cell_keep hk hbG c2, cell_keep hk hbG c3, cell_keep hk hbG c4, cell_keep hk hbG c5⟩
theorem EvIn.shape {w : World} {F : List Nat} {v : Value} {l : List Ev} (h : EvIn w F v l) : ∃ A c, v = .slice A l.length c ∧ l.length ≤ c ∧ c ≤ 9223372036854775807 := by
  obtain ⟨A, c, hv, h1, h2, h3⟩ := h
  exact ⟨A, c, hv, h1, by unfold maxLen at h2; omega⟩
theorem EvIn.at_ {w : World} {F : List Nat} {A : Option Addr} {n c : Nat} {l : List Ev} (h : EvIn w F (.slice A n c) l) (hn : 0 < l.length) :
    ∃ b o, A = some ⟨b, o, none⟩ ∧ b ∉ F ∧ ∀ j e, l[j]? = some e → EvAt w b (o + j * 5) e := by
  obtain ⟨A', c', hv, h1, h2, h3⟩ := h
  injection hv with hA
  subst hA
  exact h3 hn
theorem Row.evIn {w : World} {F : List Nat} {v : Value} {l : List Ev} (h : Row w 95 5 v l.length (evsV l)) (hF : ∀ k, v.ownBlock = some k → k ∉ F) : EvIn w F v l := by
  obtain ⟨A, c, rfl, h1, h2, h3, -⟩ := h.form
  refine ⟨A, c, rfl, h1, h2, fun hp => ?_⟩
  obtain ⟨g, off, cap, hv, -, -, hc, -⟩ := h.open_ hp
  injection hv with hA
  subst hA
  refine ⟨g, off, rfl, hF g rfl, fun j u hu => ?_⟩
  obtain ⟨g0, g1, g2, g3, g4⟩ := evsV_get l j u hu
  exact ⟨hc _ _ g0, by rw [Nat.add_assoc]; exact hc _ _ g1, by rw [Nat.add_assoc]; exact hc _ _ g2, by rw [Nat.add_assoc]; exact hc _ _ g3, by rw [Nat.add_assoc]; exact hc _ _ g4⟩
theorem event_info : (Try.prog.info? 95).map (fun i => (i.zero, i.size, i.bytes)) = some (some (.agg #[.int .i64 0, .int .i64 0, .int .i64 0, .bool false, .bool false]), 5, 32) := by kernel_rfl
theorem run_eqInH (n : Nat) (a b c d : Int) (w : World) : (Op.equalIn (n + 2) 30 (.agg #[.int .i64 a, .int .i64 b]) (.agg #[.int .i64 c, .int .i64 d])).run Try.prog w = .ok (a == c && b == d) w := by
  have hp0 : ∀ (x y : Int) (w : World), (part 3 #[.int .i64 x, .int .i64 y] 0).run Try.prog w = .ok (.int .i64 x) w := fun _ _ _ => by kernel_rfl
  have hp1 : ∀ (x y : Int) (w : World), (part 3 #[.int .i64 x, .int .i64 y] 1).run Try.prog w = .ok (.int .i64 y) w := fun _ _ _ => by kernel_rfl
  have he : ∀ (x y : Int) (w : World), (Op.equalIn (n + 1) 3 (.int .i64 x) (.int .i64 y)).run Try.prog w = .ok (x == y) w := fun x y w => run_equalIn_int w n 3 .i64 .i64 x y Try.underlying3
  show (Op.equalIn (n + 1 + 1) _ _ _).run _ _ = _
  rw [run_equalIn_struct w (n + 1) 30 _ _ (by simp [Program.fieldsOf, Try.underlying30]) (by kernel_rfl)]
  simp [Program.fieldsOf, Try.underlying30, Op.eqFields, hp0, hp1, he]
  by_cases h1 : a = c <;> by_cases h2 : b = d <;> simp [h1, h2]
theorem run_eqEv (a b : Ev) (w : World) : (Op.equal 95 (evA a) (evA b)).run Try.prog w = .ok (decide (a = b)) w := by
  obtain ⟨⟨a1, a2⟩, a3, a4, a5⟩ := a
  obtain ⟨⟨b1, b2⟩, b3, b4, b5⟩ := b
  have hp0 : ∀ (x y z : Int) (r u : Bool) (w : World), (part 30 #[.int .i64 x, .int .i64 y, .int .i64 z, .bool r, .bool u] 0).run Try.prog w = .ok (.agg #[.int .i64 x, .int .i64 y]) w := fun _ _ _ _ _ _ => by kernel_rfl
  have hp2 : ∀ (x y z : Int) (r u : Bool) (w : World), (part 3 #[.int .i64 x, .int .i64 y, .int .i64 z, .bool r, .bool u] 2).run Try.prog w = .ok (.int .i64 z) w := fun _ _ _ _ _ _ => by kernel_rfl
  have hp3 : ∀ (x y z : Int) (r u : Bool) (w : World), (part 4 #[.int .i64 x, .int .i64 y, .int .i64 z, .bool r, .bool u] 3).run Try.prog w = .ok (.bool r) w := fun _ _ _ _ _ _ => by kernel_rfl
  have hp4 : ∀ (x y z : Int) (r u : Bool) (w : World), (part 4 #[.int .i64 x, .int .i64 y, .int .i64 z, .bool r, .bool u] 4).run Try.prog w = .ok (.bool u) w := fun _ _ _ _ _ _ => by kernel_rfl
  have he : ∀ (x y : Int) (w : World), (Op.equalIn 9999 3 (.int .i64 x) (.int .i64 y)).run Try.prog w = .ok (x == y) w := fun x y w => run_equalIn_int w 9998 3 .i64 .i64 x y Try.underlying3
  have heb : ∀ (x y : Bool) (w : World), (Op.equalIn 9999 4 (.bool x) (.bool y)).run Try.prog w = .ok (x == y) w := fun x y w => by kernel_rfl
  have heh : ∀ (x y z u : Int) (w : World), (Op.equalIn 9999 30 (.agg #[.int .i64 x, .int .i64 y]) (.agg #[.int .i64 z, .int .i64 u])).run Try.prog w = .ok (x == z && y == u) w := fun x y z u w => run_eqInH 9997 x y z u w
  show (Op.equalIn (9999 + 1) _ _ _).run _ _ = _
  unfold evA
  rw [run_equalIn_struct w 9999 95 _ _ (by simp [Program.fieldsOf, Try.underlying95]) (by kernel_rfl)]
  simp [Program.fieldsOf, Try.underlying95, Op.eqFields, hp0, hp2, hp3, hp4, he, heb, heh]
  by_cases h1 : a1 = b1 <;> by_cases h2 : a2 = b2 <;> by_cases h3 : a3 = b3 <;> by_cases h4 : a4 = b4 <;> by_cases h5 : a5 = b5 <;> simp [h1, h2, h3, h4, h5]
end Go.Proofs.Ytkeffebcmajhmaa
/- The laws' events by contract: two rows of Events. -/
namespace Go.Proofs.Ytkeffebcmajhmaa
open Go.RowKit
set_option linter.unusedVariables false
set_option linter.unusedSimpArgs false
set_option maxRecDepth 100000 in
set_option maxHeartbeats 4000000 in
theorem events_any (a b : Value) (xs ys : List Ev) (w : World) (ha : EvIn w [] a xs) (hb : EvIn w [] b ys) :
    Calls Try.prog 69 #[a, b] w fun e w' => e = .returned (.bool (decide (xs = ys))) ∧ Keeps [] w w' := by
  have HA := hid ha
  have HB := hid hb
  obtain ⟨A, ca, rfl, ha1, ha2⟩ := ha.shape
  obtain ⟨B, cb, rfl, hb1, hb2⟩ := hb.shape
  clear ha hb
  have hxl : xs.length ≤ 9223372036854775807 := by omega
  have hyl : ys.length ≤ 9223372036854775807 := by omega
  clear ha1 ha2 hb1 hb2
  have heq : ∀ (a b : Ev) (w : World), (Op.equalIn 10000 95 (evA a) (evA b)).run Try.prog w = .ok (decide (a = b)) w := run_eqEv
  unfold evA at heq
  obtain ⟨R, hR⟩ : ∃ R, decide (xs = ys) = R := ⟨_, rfl⟩
  rw [hR]
  have HR := hid hR
  clear hR
  by_cases hl : xs.length = ys.length
  · have hlb : (((xs.length : Nat) : Int) != (ys.length : Nat)) = false := by simp [hl]
    have HL := hid hl
    clear hl
    go_enter Try.func69, Try.ntmps69
    go_wp2
    go_loopw [5] (fun i wr => ∃ k : Nat, k ≤ xs.length ∧ i = .int .i64 k ∧ xs.take k = ys.take k ∧ Keeps [] w wr) (fun i _ => xs.length - (intOf i).toNat)
    case atStart => exact ⟨0, Nat.zero_le _, rfl, by simp, Keeps.refl _ _⟩
    case round =>
      obtain ⟨k, hk, rfl, ht, hkp⟩ := hrel
      have HT := hid ht
      clear ht
      by_cases hlt : k < xs.length
      · have hlt2 : k < ys.length := by rw [← HL.out]; exact hlt
        obtain ⟨x, hx⟩ : ∃ x, xs[k]? = some x := ⟨xs[k], by simp [hlt]⟩
        obtain ⟨y, hy⟩ : ∃ y, ys[k]? = some y := ⟨ys[k], by simp [hlt2]⟩
        obtain ⟨b1, o1, rfl, -, hc1⟩ := (HA.out.keeps hkp (by simp)).at_ (by omega)
        obtain ⟨b2, o2, rfl, -, hc2⟩ := (HB.out.keeps hkp (by simp)).at_ (by omega)
        obtain ⟨x0, x1, x2, x3, x4⟩ := hc1 k x hx
        obtain ⟨y0, y1, y2, y3, y4⟩ := hc2 k y hy
        have heq := heq x y
        obtain ⟨⟨xa, xb⟩, xc, xd, xe⟩ := x
        obtain ⟨⟨ya, yb⟩, yc, yd, ye⟩ := y
        simp only at x0 x1 x2 x3 x4 y0 y1 y2 y3 y4 heq
        clear hc1 hc2
        have HX := hid hx
        have HY := hid hy
        clear hx hy
        have i1 : (k : Int) < xs.length := by omega
        have i2 : (k : Int) < ys.length := by omega
        obtain ⟨D, hD⟩ : ∃ D, decide ((((xa, xb), xc, xd, xe) : Ev) = ((ya, yb), yc, yd, ye)) = D := ⟨_, rfl⟩
        rw [hD] at heq
        have HD := hid hD
        clear hD
        cases D with
        | true =>
          have hxy : (((xa, xb), xc, xd, xe) : Ev) = ((ya, yb), yc, yd, ye) := of_decide_eq_true HD.out
          have hxy := hid hxy
          go_wp2_with fail
          go_quiet (fail)
          go_wp2
          go_roundw
          case rel =>
            refine ⟨k + 1, by omega, by go_num, ?_, hkp.drewN _⟩
            rw [List.take_add_one, List.take_add_one, HX.out, HY.out, HT.out, hxy.out]
          case measure => simp [intOf] <;> omega
        | false =>
          have hxy : ¬ (((xa, xb), xc, xd, xe) : Ev) = ((ya, yb), yc, yd, ye) := of_decide_eq_false HD.out
          have hxy := hid hxy
          go_wp2_with fail
          go_quiet (fail)
          go_wp2
          go_ret
          refine ⟨?_, hkp.drewN _⟩
          have hRf : R = false := by
            rw [← HR.out]
            refine decide_eq_false (fun e => ?_)
            have h3 := HX.out
            rw [e, HY.out] at h3
            injection h3 with h3
            exact hxy.out h3.symm
          rw [hRf]
          rfl
      · have hkl : k = xs.length := by omega
        subst hkl
        have ht := HT.out
        rw [List.take_length, HL.out, List.take_length] at ht
        go_wp2
        go_ret
        refine ⟨?_, hkp⟩
        have hRt : R = true := by
          rw [← HR.out]
          exact decide_eq_true ht
        rw [hRt]
        rfl
  · have hlb : (((xs.length : Nat) : Int) != (ys.length : Nat)) = true := by simp; omega
    have HL := hid hl
    clear hl
    go_enter Try.func69, Try.ntmps69
    go_wp2
    go_ret
    refine ⟨?_, Keeps.refl _ _⟩
    rw [← HR.out, decide_eq_false (fun e => HL.out (by rw [e]))]
    rfl
end Go.Proofs.Ytkeffebcmajhmaa
/- The poller: what Wait tells, and in which order. -/
namespace Go.Proofs.Ytkeffebcmajhmaa
open Go.RowKit
set_option linter.unusedVariables false
set_option linter.unusedSimpArgs false
theorem allFrom_mem : ∀ (L : List Slot) (i : Nat) (h : Int × Int), h ∈ allFrom i L ↔ ∃ (k : Nat) (v : Int), h.1 = ((i + k : Nat) : Int) ∧ L[k]? = some (h.2, true, v)
  | [], i, h => by simp [allFrom]
  | d :: L, i, h => by
    simp only [allFrom, List.mem_append, allFrom_mem L (i + 1) h]
    constructor
    · rintro (h1 | ⟨k, v, h1, h2⟩)
      · obtain ⟨g, u, v⟩ := d
        cases u with
        | false => simp at h1
        | true =>
          simp at h1
          subst h1
          exact ⟨0, v, by simp, by simp⟩
      · exact ⟨k + 1, v, by rw [h1]; omega, by simpa using h2⟩
    · rintro ⟨k, v, h1, h2⟩
      cases k with
      | zero =>
        simp at h2
        subst h2
        left
        obtain ⟨a, b⟩ := h
        simp at h1 ⊢
        exact h1
      | succ k => exact .inr ⟨k, v, by rw [h1]; omega, by simpa using h2⟩
theorem allFrom_nodup : ∀ (L : List Slot) (i : Nat), ((allFrom i L).map (·.1)).Nodup
  | [], i => by simp [allFrom]
  | d :: L, i => by
    have ih := allFrom_nodup L (i + 1)
    simp only [allFrom]
    split
    · rw [List.singleton_append, List.map_cons, List.nodup_cons]
      refine ⟨fun hx => ?_, ih⟩
      obtain ⟨h, hm, he⟩ := List.mem_map.1 hx
      obtain ⟨k, v, h1, -⟩ := (allFrom_mem L (i + 1) h).1 hm
      rw [h1] at he
      simp at he
      omega
    · simpa using ih
/-- what one that is watched is told. -/
def evOf (N : NS) (h : Int × Int) (d : Wd) : List Ev := if ((toldD N d).1 || (toldD N d).2.1) = true then [(h, d.id, (toldD N d).1, (toldD N d).2.1)] else []
abbrev WL := List ((Int × Int) × Wd)
def findW (ds : WL) (h : Int × Int) : Option Wd := (ds.find? (fun x => x.1 == h)).map (·.2)
def evAt (N : NS) (ds : WL) (h : Int × Int) : List Ev := match findW ds h with | some d => evOf N h d | none => []
/-- the Events, in the slots' order. -/
def evsP (N : NS) (L : List Slot) (ds : WL) : List Ev := (allFrom 0 L).flatMap (evAt N ds)
/-- what is remembered behind it. -/
def toldP (N : NS) (ds : WL) : WL := ds.map fun x => (x.1, (toldD N x.2).2.2)
theorem toldD_id (N : NS) (d : Wd) : (toldD N d).2.2.id = d.id := by
  unfold toldD
  split <;> rfl
/-- the next that is picked. -/
def pickI (p : List Int) (n : Nat) : Nat := match p with
  | [] => 0
  | x :: _ => (max 0 x).toNat % n
def pickGo : Nat → List Int → List Ev → List Ev
  | 0, _, _ => []
  | n + 1, p, r => match r[pickI p r.length]? with
    | some e => e :: pickGo n (p.drop 1) (r.eraseIdx (pickI p r.length))
    | none => []
def pickE (p : List Int) (r : List Ev) : List Ev := pickGo r.length p r
theorem pickI_lt (p : List Int) {n : Nat} (h : 0 < n) : pickI p n < n := by
  unfold pickI
  cases p with
  | nil => exact h
  | cons x p => exact Nat.mod_lt _ h
theorem pickE_nil (p : List Int) : pickE p [] = [] := rfl
theorem pickE_step (p : List Int) {r : List Ev} {e : Ev} (h : r[pickI p r.length]? = some e) : pickE p r = e :: pickE (p.drop 1) (r.eraseIdx (pickI p r.length)) := by
  have hl := (List.getElem?_eq_some_iff.1 h).1
  obtain ⟨n, hn⟩ : ∃ n, r.length = n + 1 := ⟨r.length - 1, by omega⟩
  have he : (r.eraseIdx (pickI p r.length)).length = n := by
    rw [List.length_eraseIdx_of_lt hl]
    omega
  unfold pickE
  rw [he, show pickGo r.length = pickGo (n + 1) by rw [hn]]
  show (match r[pickI p r.length]? with | some e => e :: pickGo n (p.drop 1) (r.eraseIdx (pickI p r.length)) | none => []) = _
  rw [h]
section
variable {w : World} {pb n s m : Nat} {Fn Fs : List Nat} {N : NS} {L : List Slot} {es : List PX} {clock : Nat}
theorem PAt.keyed (h : PAt w pb n s m Fn Fs N L es clock) {x : PX} (hx : x ∈ es) : (x.1.s, x.1.g) ∈ allFrom 0 L := by
  obtain ⟨k, h1, h2⟩ := h.key x hx
  exact (allFrom_mem L 0 _).2 ⟨k, x.2.id, by rw [h1]; simp, h2⟩
theorem PAt.entry (h : PAt w pb n s m Fn Fs N L es clock) {k : Int × Int} (hk : k ∈ allFrom 0 L) : ∃ x ∈ es, (x.1.s, x.1.g) = k := by
  obtain ⟨j, v, h1, h2⟩ := (allFrom_mem L 0 k).1 hk
  obtain ⟨x, hx, he⟩ := h.all j k.2 v h2
  obtain ⟨i, h3, h4⟩ := h.key x hx
  have hij : i = j := by omega
  subst hij
  rw [h2] at h4
  simp at h4
  refine ⟨x, hx, ?_⟩
  obtain ⟨a, b⟩ := k
  simp at h1 h4 ⊢
  exact ⟨by rw [he, h1], h4.1.symm⟩
theorem PAt.find (h : PAt w pb n s m Fn Fs N L es clock) {x : PX} (hx : x ∈ es) : findW (es.map (fun x => ((x.1.s, x.1.g), x.2))) (x.1.s, x.1.g) = some x.2 := by
  unfold findW
  cases hf : (es.map (fun x => ((x.1.s, x.1.g), x.2))).find? (fun y => y.1 == (x.1.s, x.1.g)) with
  | none =>
    have := List.find?_eq_none.1 hf ((x.1.s, x.1.g), x.2) (List.mem_map.2 ⟨x, hx, rfl⟩)
    simp at this
  | some y =>
    have h1 := List.mem_of_find?_eq_some hf
    have h2 := List.find?_some hf
    obtain ⟨z, hz, rfl⟩ := List.mem_map.1 h1
    simp at h2
    have := nodup_inj (f := fun x : PX => x.1.s) h.kn hz hx h2.1
    subst this
    rfl
end
end Go.Proofs.Ytkeffebcmajhmaa
