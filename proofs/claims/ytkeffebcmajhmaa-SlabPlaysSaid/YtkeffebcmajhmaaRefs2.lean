/- The reference's slab: stores; Get, Set, Take by contract. -/
import Derived.Test.YtkeffebcmajhmaaRefs1
namespace Go.Proofs.Ytkeffebcmajhmaa
open Go.RowKit
set_option linter.unusedVariables false
section
variable {w w' : World} {x : Nat} {F : List Nat} {lim n : Int} {L : List Slot}
theorem RS.setN (h : RS w x F lim L n) (m : Int) : RS (w.setCell ⟨x, 4, none⟩ (.int .i64 m)) x F lim L m := by
  obtain ⟨vu, vg, vv, h1, h2, h3, h4, h5, h6, h7, h8, h9, h10⟩ := h
  exact ⟨vu, vg, vv, h1.set_ 4 _, h2.far (fun k e => h2.blk_ne h1 (by decide) k e) _, h3.far (fun k e => h3.blk_ne h1 (by decide) k e) _, h4.far (fun k e => h4.blk_ne h1 (by decide) k e) _, fun k hk => by simpa [World.setCell] using h5 k hk, h6, h7, h8, h9, h10⟩
theorem RS.cN (h : RS w x F lim L n) : w.cell? ⟨x, 4, none⟩ = some (.int .i64 n) ∧ w.cell? ⟨x, 0, none⟩ = some (.int .i64 lim) ∧ (∀ j, w.frozen? ⟨x, j, none⟩ = false) ∧ x ∈ F ∧ x < w.heap.size := by
  obtain ⟨vu, vg, vv, h1, h2, h3, h4, h5, h6, h7, h8, h9, h10⟩ := h
  exact ⟨by simpa using h1.cell 4, by simpa using h1.cell 0, h1.frozen, h6, h1.lt⟩
theorem RS.setUsed (h : RS w x F lim L n) {ub uo uc k : Nat} {d : Slot} (hA : w.cell? ⟨x, 1, none⟩ = some (.slice (some ⟨ub, uo, none⟩) L.length uc)) (hd : L[k]? = some d) :
    ub ∈ F ∧ ub ≠ x ∧ (∀ j, w.frozen? ⟨ub, j, none⟩ = false) ∧ ∀ u, RS (w.setCell ⟨ub, uo + k, none⟩ (.bool u)) x F lim (L.set k (d.1, u, d.2.2)) n := by
  obtain ⟨vu, vg, vv, h1, h2, h3, h4, h5, h6, h7, h8, h9, h10⟩ := h
  have hc := h1.cell 1
  rw [hA] at hc
  simp at hc
  subst hc
  have hkl : k < L.length := (List.getElem?_eq_some_iff.1 hd).1
  obtain ⟨b, o, c, hv, -, -, -, hfz, hs⟩ := h2.open_ (by omega)
  injection hv with hv
  injection hv with hv
  injection hv with e1 e2
  subst e1 e2
  have hne : x ≠ ub := fun e => h2.blk_ne h1 (by decide) ub (by simp [Value.ownBlock]) e.symm
  refine ⟨h7 ub (by simp [Value.ownBlock]), Ne.symm hne, hfz, fun u => ?_⟩
  have hr := hs k (.bool u) (by simp [usedV]; omega)
  have e1 : (usedV L).set k (.bool u) = usedV (L.set k (d.1, u, d.2.2)) := by simp [usedV, List.map_set]
  have e2 : genV L = genV (L.set k (d.1, u, d.2.2)) := by
    simp only [genV, List.map_set]
    exact (set_self _ _ _ (by simp [hd])).symm
  have e3 : valV L = valV (L.set k (d.1, u, d.2.2)) := by
    simp only [valV, List.map_set]
    exact (set_self _ _ _ (by simp [hd])).symm
  rw [e1] at hr
  rw [e2] at h3
  rw [e3] at h4
  have q3 : ∀ j, vg.ownBlock = some j → j ≠ ub := fun j hj hx => h3.disj h2 (by decide) j hj (by simp [Value.ownBlock, hx])
  have q4 : ∀ j, vv.ownBlock = some j → j ≠ ub := fun j hj hx => h4.disj h2 (by decide) j hj (by simp [Value.ownBlock, hx])
  exact ⟨_, vg, vv, by simpa using h1.far (p := ⟨ub, uo + k, none⟩) hne _, by simpa using hr, by simpa using h3.far (p := ⟨ub, uo + k, none⟩) q3 _, by simpa using h4.far (p := ⟨ub, uo + k, none⟩) q4 _, fun j hj => by simpa [World.setCell] using h5 j hj, h6, h7, h8, h9, h10⟩
theorem RS.setGen (h : RS w x F lim L n) {gb go gc k : Nat} {d : Slot} (hA : w.cell? ⟨x, 2, none⟩ = some (.slice (some ⟨gb, go, none⟩) L.length gc)) (hd : L[k]? = some d) :
    gb ∈ F ∧ gb ≠ x ∧ (∀ j, w.frozen? ⟨gb, j, none⟩ = false) ∧ ∀ g, RS (w.setCell ⟨gb, go + k, none⟩ (.int .i64 g)) x F lim (L.set k (g, d.2.1, d.2.2)) n := by
  obtain ⟨vu, vg, vv, h1, h2, h3, h4, h5, h6, h7, h8, h9, h10⟩ := h
  have hc := h1.cell 2
  rw [hA] at hc
  simp at hc
  subst hc
  have hkl : k < L.length := (List.getElem?_eq_some_iff.1 hd).1
  obtain ⟨b, o, c, hv, -, -, -, hfz, hs⟩ := h3.open_ (by omega)
  injection hv with hv
  injection hv with hv
  injection hv with e1 e2
  subst e1 e2
  have hne : x ≠ gb := fun e => h3.blk_ne h1 (by decide) gb (by simp [Value.ownBlock]) e.symm
  refine ⟨h8 gb (by simp [Value.ownBlock]), Ne.symm hne, hfz, fun g => ?_⟩
  have hr := hs k (.int .i64 g) (by simp [genV]; omega)
  have e1 : (genV L).set k (.int .i64 g) = genV (L.set k (g, d.2.1, d.2.2)) := by simp [genV, List.map_set]
  have e2 : usedV L = usedV (L.set k (g, d.2.1, d.2.2)) := by
    simp only [usedV, List.map_set]
    exact (set_self _ _ _ (by simp [hd])).symm
  have e3 : valV L = valV (L.set k (g, d.2.1, d.2.2)) := by
    simp only [valV, List.map_set]
    exact (set_self _ _ _ (by simp [hd])).symm
  rw [e1] at hr
  rw [e2] at h2
  rw [e3] at h4
  have q2 : ∀ j, vu.ownBlock = some j → j ≠ gb := fun j hj hx => h2.disj h3 (by decide) j hj (by simp [Value.ownBlock, hx])
  have q4 : ∀ j, vv.ownBlock = some j → j ≠ gb := fun j hj hx => h10 j (by simp [Value.ownBlock, hx]) hj
  exact ⟨vu, _, vv, by simpa using h1.far (p := ⟨gb, go + k, none⟩) hne _, by simpa using h2.far (p := ⟨gb, go + k, none⟩) q2 _, by simpa using hr, by simpa using h4.far (p := ⟨gb, go + k, none⟩) q4 _, fun j hj => by simpa [World.setCell] using h5 j hj, h6, h7, h8, h9, h10⟩
theorem RS.setVal (h : RS w x F lim L n) {vb vo vc k : Nat} {d : Slot} (hA : w.cell? ⟨x, 3, none⟩ = some (.slice (some ⟨vb, vo, none⟩) L.length vc)) (hd : L[k]? = some d) :
    vb ∈ F ∧ vb ≠ x ∧ (∀ j, w.frozen? ⟨vb, j, none⟩ = false) ∧ ∀ v, RS (w.setCell ⟨vb, vo + k, none⟩ (.int .i64 v)) x F lim (L.set k (d.1, d.2.1, v)) n := by
  obtain ⟨vu, vg, vv, h1, h2, h3, h4, h5, h6, h7, h8, h9, h10⟩ := h
  have hc := h1.cell 3
  rw [hA] at hc
  simp at hc
  subst hc
  have hkl : k < L.length := (List.getElem?_eq_some_iff.1 hd).1
  obtain ⟨b, o, c, hv, -, -, -, hfz, hs⟩ := h4.open_ (by omega)
  injection hv with hv
  injection hv with hv
  injection hv with e1 e2
  subst e1 e2
  have hne : x ≠ vb := fun e => h4.blk_ne h1 (by decide) vb (by simp [Value.ownBlock]) e.symm
  refine ⟨h9 vb (by simp [Value.ownBlock]), Ne.symm hne, hfz, fun v => ?_⟩
  have hr := hs k (.int .i64 v) (by simp [valV]; omega)
  have e1 : (valV L).set k (.int .i64 v) = valV (L.set k (d.1, d.2.1, v)) := by simp [valV, List.map_set]
  have e2 : usedV L = usedV (L.set k (d.1, d.2.1, v)) := by
    simp only [usedV, List.map_set]
    exact (set_self _ _ _ (by simp [hd])).symm
  have e3 : genV L = genV (L.set k (d.1, d.2.1, v)) := by
    simp only [genV, List.map_set]
    exact (set_self _ _ _ (by simp [hd])).symm
  rw [e1] at hr
  rw [e2] at h2
  rw [e3] at h3
  have q2 : ∀ j, vu.ownBlock = some j → j ≠ vb := fun j hj hx => h2.disj h4 (by decide) j hj (by simp [Value.ownBlock, hx])
  have q3 : ∀ j, vg.ownBlock = some j → j ≠ vb := fun j hj hx => h10 j hj (by simp [Value.ownBlock, hx])
  exact ⟨vu, vg, _, by simpa using h1.far (p := ⟨vb, vo + k, none⟩) hne _, by simpa using h2.far (p := ⟨vb, vo + k, none⟩) q2 _, by simpa using h3.far (p := ⟨vb, vo + k, none⟩) q3 _, by simpa using hr, fun j hj => by simpa [World.setCell] using h5 j hj, h6, h7, h8, h9, h10⟩
end
set_option maxHeartbeats 1000000 in
theorem rsget_any (x : Nat) (F : List Nat) (lim n : Int) (L : List Slot) (i g : Int) (w : World) (h : RS w x F lim L n) :
    Calls Try.prog 29 #[.pointer (some ⟨x, 0, none⟩), .agg #[.int .i64 i, .int .i64 g]] w fun e w' => e = .returned (.tuple #[.int .i64 (getR L i g).1, .int .i64 (getR L i g).2]) ∧ Keeps [] w w' := by
  obtain ⟨y, hy⟩ : ∃ y, live L i g = y := ⟨_, rfl⟩
  unfold getR
  rw [hy]
  have H := hid h
  cases y with
  | none =>
    have HY := hid hy
    clear hy h
    simp only
    go_enter Try.func29, Try.ntmps29
    go_wp2_with fail
    refine (ris_dead x F lim n L i g _ (H.out.keeps ((Keeps.refl [] w).alloc _) (by simp)) HY.out).mono ?_
    rintro e w1 ⟨rfl, hk⟩
    go_wp2
    go_ret2
    exact ⟨rfl, ((Keeps.refl [] w).alloc _).trans hk (by simp)⟩
  | some y =>
    obtain ⟨k, v⟩ := y
    obtain ⟨rfl, hd⟩ := live_some hy
    obtain ⟨UA, uc, GA, gc, VA, vc, h1, h2, h3, hc⟩ := h.opened
    have hkl : k < L.length := (List.getElem?_eq_some_iff.1 hd).1
    obtain ⟨ub, uo, gb, go, vb, vo, rfl, rfl, rfl, hcc⟩ := hc (by omega)
    obtain ⟨-, -, c3⟩ := hcc k _ hd
    have HD := hid hd
    have n3 := fun o => alloc_cell h3 o
    have n4 := fun o => alloc_cell c3 o
    have hki : (k : Int) < L.length := by omega
    clear hy h hcc hd h1 h2 h3 hc c3
    simp only at n4 ⊢
    go_enter Try.func29, Try.ntmps29
    go_wp2_with fail
    refine (ris_live x F lim n L k g v _ (H.out.keeps ((Keeps.refl [] w).alloc _) (by simp)) HD.out).mono ?_
    rintro e w1 ⟨rfl, hk⟩
    have n5 := cell_keep hk (by simp) (n3 _)
    have n6 := cell_keep hk (by simp) (n4 _)
    have hbb := (Blk.new w 30 #[.int .i64 k, .int .i64 g]).keeps hk (by simp)
    have b0 := hbb.cell 0
    simp at b0
    clear n3 n4 hbb
    go_wp2_with fail
    go_quiet (fail)
    go_wp2
    go_ret2
    exact ⟨rfl, (((Keeps.refl [] w).alloc _).trans hk (by simp)).drewN _⟩
set_option maxHeartbeats 1000000 in
theorem rsset_any (x : Nat) (F : List Nat) (lim n : Int) (L : List Slot) (i g v : Int) (w : World) (h : RS w x F lim L n) :
    Calls Try.prog 27 #[.pointer (some ⟨x, 0, none⟩), .agg #[.int .i64 i, .int .i64 g], .int .i64 v] w fun e w' => e = .returned (.int .i64 (setR L i g v).2) ∧ RS w' x F lim (setR L i g v).1 n ∧ Keeps F w w' := by
  obtain ⟨y, hy⟩ : ∃ y, live L i g = y := ⟨_, rfl⟩
  unfold setR
  rw [hy]
  have H := hid h
  cases y with
  | none =>
    have HY := hid hy
    clear hy h
    simp only
    go_enter Try.func27, Try.ntmps27
    go_wp2_with fail
    refine (ris_dead x F lim n L i g _ (H.out.keeps ((Keeps.refl [] w).alloc _) (by simp)) HY.out).mono ?_
    rintro e w1 ⟨rfl, hk⟩
    go_wp2
    go_ret
    have hk2 := ((Keeps.refl [] w).alloc _).trans hk (by simp)
    exact ⟨rfl, H.out.keeps hk2 (by simp), hk2.mono (by simp)⟩
  | some y =>
    obtain ⟨k, v0⟩ := y
    obtain ⟨rfl, hd⟩ := live_some hy
    obtain ⟨UA, uc, GA, gc, VA, vc, h1, h2, h3, hc⟩ := h.opened
    have hkl : k < L.length := (List.getElem?_eq_some_iff.1 hd).1
    obtain ⟨ub, uo, gb, go, vb, vo, rfl, rfl, rfl, hcc⟩ := hc (by omega)
    obtain ⟨-, -, c3⟩ := hcc k _ hd
    have HD := hid hd
    have n3 := fun o => alloc_cell h3 o
    have n4 := fun o => alloc_cell c3 o
    have hki : (k : Int) < L.length := by omega
    clear hy h hcc hd h1 h2 h3 hc c3
    simp only at n4 ⊢
    go_enter Try.func27, Try.ntmps27
    go_wp2_with fail
    refine (ris_live x F lim n L k g v0 _ (H.out.keeps ((Keeps.refl [] w).alloc _) (by simp)) HD.out).mono ?_
    rintro e w1 ⟨rfl, hk⟩
    have n5 := cell_keep hk (by simp) (n3 _)
    have n6 := cell_keep hk (by simp) (n4 _)
    have hbb := (Blk.new w 30 #[.int .i64 k, .int .i64 g]).keeps hk (by simp)
    have b0 := hbb.cell 0
    simp at b0
    have hk2 := ((Keeps.refl [] w).alloc _).trans hk (by simp)
    obtain ⟨hbF, hbx, hfz, hst⟩ := (H.out.keeps hk2 (by simp)).setVal n5 HD.out
    have f3 := hfz (vo + k)
    have HST := hid (hst v)
    have HK := hid hk2
    clear n3 n4 hbb hst hfz hk hk2
    go_wp2_with fail
    go_region_law (fail)
    all_goals go_wp2
    all_goals
      go_ret
      exact ⟨rfl, HST.out.keeps ((Keeps.refl [] _).drew) (by simp), ((HK.out.mono (by simp)).setCell (.inl hbF) _).drew⟩
end Go.Proofs.Ytkeffebcmajhmaa
