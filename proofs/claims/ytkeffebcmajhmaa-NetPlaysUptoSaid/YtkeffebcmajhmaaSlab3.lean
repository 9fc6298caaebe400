/- The slab: Get, Set, Len by contract, of a slab that is there. -/
import Derived.Test.YtkeffebcmajhmaaSlab2
namespace Go.Proofs.Ytkeffebcmajhmaa
open Go.RowKit
set_option linter.unusedVariables false
/-- the slot of a Handle in use, and what it has. -/
def live (L : List Slot) (i g : Int) : Option (Nat × Int) :=
  if 0 ≤ i then (match L[i.toNat]? with
    | some d => if d.2.1 = true ∧ d.1 = g then some (i.toNat, d.2.2) else none
    | none => none) else none
theorem live_some {L : List Slot} {i g : Int} {k : Nat} {v : Int} (h : live L i g = some (k, v)) : i = k ∧ L[k]? = some (g, true, v) := by
  unfold live at h
  split at h
  · split at h
    · rename_i h0 d hd
      split at h
      · rename_i hc
        simp at h
        obtain ⟨rfl, rfl⟩ := h
        obtain ⟨d0, d1, d2⟩ := d
        obtain ⟨rfl, rfl⟩ := hc
        exact ⟨by omega, hd⟩
      · cases h
    · cases h
  · cases h
theorem live_none {L : List Slot} {i g : Int} (h : live L i g = none) : i < 0 ∨ (0 ≤ i ∧ (L.length : Int) ≤ i) ∨ ∃ (k : Nat) (g' : Int) (u : Bool) (v : Int), i = k ∧ L[k]? = some (g', u, v) ∧ (u = false ∨ (u = true ∧ g' ≠ g)) := by
  unfold live at h
  split at h
  · rename_i h0
    split at h
    · rename_i d hd
      split at h
      · cases h
      · rename_i hc
        obtain ⟨d0, d1, d2⟩ := d
        refine .inr (.inr ⟨i.toNat, d0, d1, d2, by omega, hd, ?_⟩)
        cases d1 with
        | false => exact .inl rfl
        | true => exact .inr ⟨rfl, fun hx => hc ⟨rfl, hx⟩⟩
    · rename_i hd
      rw [List.getElem?_eq_none_iff] at hd
      exact .inr (.inl ⟨h0, by omega⟩)
  · exact .inl (by omega)
section
variable {w w' : World} {s : Nat} {F : List Nat} {lim n : Int} {L : List Slot}
theorem SRep.setN (h : SRep w s F lim L n) (m : Int) : SRep (w.setCell ⟨s, 2, none⟩ (.int .i64 m)) s F lim L m := by
  obtain ⟨vs, h1, h2, h3, h4, h5⟩ := h
  exact ⟨vs, h1.set_ 2 _, h2.far (fun k e => h2.blk_ne h1 (by decide) k e) _, fun k hk => by simpa [World.setCell] using h3 k hk, h4, h5⟩
theorem SRep.cN (h : SRep w s F lim L n) : w.cell? ⟨s, 2, none⟩ = some (.int .i64 n) ∧ w.cell? ⟨s, 0, none⟩ = some (.int .i64 lim) ∧ (∀ j, w.frozen? ⟨s, j, none⟩ = false) ∧ s ∈ F ∧ s < w.heap.size := by
  obtain ⟨vs, h1, h2, h3, h4, h5⟩ := h
  exact ⟨by simpa using h1.cell 2, by simpa using h1.cell 0, h1.frozen, h4, h1.lt⟩
theorem SRep.stores (h : SRep w s F lim L n) {b off cap : Nat} (hA : w.cell? ⟨s, 1, none⟩ = some (.slice (some ⟨b, off, none⟩) L.length cap)) {k : Nat} {d : Slot} (hd : L[k]? = some d) :
    b ∈ F ∧ b ≠ s ∧ (∀ j, w.frozen? ⟨b, j, none⟩ = false) ∧ (∀ u, SRep (w.setCell ⟨b, off + k * 3 + 1, none⟩ (.bool u)) s F lim (L.set k (d.1, u, d.2.2)) n) ∧ (∀ v, SRep (w.setCell ⟨b, off + k * 3 + 2, none⟩ (.int .i64 v)) s F lim (L.set k (d.1, d.2.1, v)) n) ∧
      (∀ e : Slot, SRep (((w.setCell ⟨b, off + k * 3, none⟩ (.int .i64 e.1)).setCell ⟨b, off + k * 3 + 1, none⟩ (.bool e.2.1)).setCell ⟨b, off + k * 3 + 2, none⟩ (.int .i64 e.2.2)) s F lim (L.set k e) n) := by
  obtain ⟨vs, h1, h2, h3, h4, h5⟩ := h
  have hc1 := h1.cell 1
  rw [hA] at hc1
  simp at hc1
  subst hc1
  have hkl : k < L.length := (List.getElem?_eq_some_iff.1 hd).1
  have hl := slotsV_length L
  have one : ∀ (W : World) (xs : List Value) (j : Nat) (u : Value), Row W 136 3 (.slice (some ⟨b, off, none⟩) L.length cap) L.length xs → j < xs.length →
      Row (W.setCell ⟨b, off + j, none⟩ u) 136 3 (.slice (some ⟨b, off, none⟩) L.length cap) L.length (xs.set j u) := by
    intro W xs j u hr hj
    obtain ⟨g, o, c, hv, -, -, -, -, hs⟩ := hr.open_ (by omega)
    injection hv with hv
    injection hv with hv
    injection hv with e1 e2
    subst e1 e2
    exact hs j u hj
  obtain ⟨g, o, c, hv, -, -, -, hfz, -⟩ := h2.open_ (by omega)
  injection hv with hv
  injection hv with hv
  injection hv with e1 e2
  subst e1 e2
  have hne : s ≠ b := fun e => h2.blk_ne h1 (by decide) b (by simp [Value.ownBlock]) e.symm
  refine ⟨h5 b (by simp [Value.ownBlock]), Ne.symm hne, hfz, fun u => ?_, fun v => ?_, fun e => ?_⟩
  · have hr := one w _ (k * 3 + 1) (.bool u) h2 (by omega)
    rw [slotsV_used L k d u hd, ← Nat.add_assoc] at hr
    exact ⟨_, h1.far (p := ⟨b, _, none⟩) hne _, by simpa using hr, fun j hj => by simpa [World.setCell] using h3 j hj, h4, h5⟩
  · have hr := one w _ (k * 3 + 2) (.int .i64 v) h2 (by omega)
    rw [slotsV_v L k d v hd, ← Nat.add_assoc] at hr
    exact ⟨_, h1.far (p := ⟨b, _, none⟩) hne _, by simpa using hr, fun j hj => by simpa [World.setCell] using h3 j hj, h4, h5⟩
  · have hr := one _ _ (k * 3 + 2) (.int .i64 e.2.2) (one _ _ (k * 3 + 1) (.bool e.2.1) (one w _ (k * 3) (.int .i64 e.1) h2 (by omega)) (by simp; omega)) (by simp; omega)
    rw [slotsV_set L k d e hd, ← Nat.add_assoc, ← Nat.add_assoc] at hr
    exact ⟨_, ((h1.far (p := ⟨b, _, none⟩) hne _).far (p := ⟨b, _, none⟩) hne _).far (p := ⟨b, _, none⟩) hne _, by simpa using hr, fun j hj => by simpa [World.setCell] using h3 j hj, h4, h5⟩
end
theorem at_live (s : Nat) (F : List Nat) (lim n : Int) (L : List Slot) (k : Nat) (g v : Int) (w : World) (h : SRep w s F lim L n) (hd : L[k]? = some (g, true, v)) (b off cap : Nat) (hA : w.cell? ⟨s, 1, none⟩ = some (.slice (some ⟨b, off, none⟩) L.length cap)) :
    Calls Try.prog 71 #[.pointer (some ⟨s, 0, none⟩), .agg #[.int .i64 k, .int .i64 g]] w fun e w' => e = .returned (.pointer (some ⟨b, off + k * 3, none⟩)) ∧ Keeps [] w w' := by
  obtain ⟨A, cap', hv, hl, hm, hc⟩ := h.opened
  have hk : k < L.length := (List.getElem?_eq_some_iff.1 hd).1
  obtain ⟨b', off', rfl, hcc⟩ := hc (by omega)
  rw [hA] at hv
  simp at hv
  obtain ⟨⟨rfl, rfl⟩, rfl⟩ := hv
  obtain ⟨g0, g1, -⟩ := hcc k _ hd
  exact at_hit s k g b off L.length cap w hA hk g0 g1
theorem at_dead (s : Nat) (F : List Nat) (lim n : Int) (L : List Slot) (i g : Int) (w : World) (h : SRep w s F lim L n) (hl : live L i g = none) :
    Calls Try.prog 71 #[.pointer (some ⟨s, 0, none⟩), .agg #[.int .i64 i, .int .i64 g]] w fun e w' => e = .returned (.pointer none) ∧ Keeps [] w w' := by
  obtain ⟨A, cap, hv, h1, h2, hc⟩ := h.opened
  rcases live_none hl with h0 | ⟨h0, h3⟩ | ⟨k, g', u, v, rfl, hd, hm⟩
  · exact at_out s i g A L.length cap w hv (.inl h0)
  · exact at_out s i g A L.length cap w hv (.inr ⟨h0, h3⟩)
  · have hk : k < L.length := (List.getElem?_eq_some_iff.1 hd).1
    obtain ⟨b, off, rfl, hcc⟩ := hc (by omega)
    obtain ⟨g0, g1, -⟩ := hcc k _ hd
    exact at_miss s k g g' u b off L.length cap w hv hk g0 g1 hm
/-- what Get answers. -/
def getR (L : List Slot) (i g : Int) : Int × Int := match live L i g with
  | some (_, v) => (v, 0)
  | none => (0, 10)
theorem sget_any (s : Nat) (F : List Nat) (lim n : Int) (L : List Slot) (i g : Int) (w : World) (h : SRep w s F lim L n) :
    Calls Try.prog 23 #[.pointer (some ⟨s, 0, none⟩), .agg #[.int .i64 i, .int .i64 g]] w fun e w' => e = .returned (.tuple #[.int .i64 (getR L i g).1, .int .i64 (getR L i g).2]) ∧ Keeps [] w w' := by
  obtain ⟨x, hx⟩ : ∃ x, live L i g = x := ⟨_, rfl⟩
  unfold getR
  rw [hx]
  have H := hid h
  cases x with
  | none =>
    have HX := hid hx
    clear hx h
    simp only
    go_enter Try.func23, Try.ntmps23
    go_wp2_with fail
    refine (at_dead s F lim n L i g _ (H.out.keeps ((Keeps.refl [] w).alloc _) (by simp)) HX.out).mono ?_
    rintro e w1 ⟨rfl, hk⟩
    go_wp2
    go_ret2
    exact ⟨rfl, ((Keeps.refl [] w).alloc _).trans hk (by simp)⟩
  | some x =>
    obtain ⟨k, v⟩ := x
    obtain ⟨rfl, hd⟩ := live_some hx
    obtain ⟨A, cap, hv, -, -, hc⟩ := h.opened
    have hkl : k < L.length := (List.getElem?_eq_some_iff.1 hd).1
    obtain ⟨b, off, rfl, hcc⟩ := hc (by omega)
    obtain ⟨-, -, g2⟩ := hcc k _ hd
    have HD := hid hd
    have n1 := fun o => alloc_cell hv o
    have n2 := fun o => alloc_cell g2 o
    clear hx h hcc hd hv g2
    simp only at n2 ⊢
    go_enter Try.func23, Try.ntmps23
    go_wp2_with fail
    refine (at_live s F lim n L k g v _ (H.out.keeps ((Keeps.refl [] w).alloc _) (by simp)) HD.out b off cap (n1 _)).mono ?_
    rintro e w1 ⟨rfl, hk⟩
    have n3 := cell_keep hk (by simp) (n2 _)
    clear n1 n2
    go_wp2
    go_ret2
    exact ⟨rfl, ((Keeps.refl [] w).alloc _).trans hk (by simp)⟩
/-- what Set makes. -/
def setR (L : List Slot) (i g v : Int) : List Slot × Int := match live L i g with
  | some (k, _) => (L.set k (g, true, v), 0)
  | none => (L, 10)
theorem sset_any (s : Nat) (F : List Nat) (lim n : Int) (L : List Slot) (i g v : Int) (w : World) (h : SRep w s F lim L n) :
    Calls Try.prog 24 #[.pointer (some ⟨s, 0, none⟩), .agg #[.int .i64 i, .int .i64 g], .int .i64 v] w fun e w' => e = .returned (.int .i64 (setR L i g v).2) ∧ SRep w' s F lim (setR L i g v).1 n ∧ Keeps F w w' := by
  obtain ⟨x, hx⟩ : ∃ x, live L i g = x := ⟨_, rfl⟩
  unfold setR
  rw [hx]
  have H := hid h
  cases x with
  | none =>
    have HX := hid hx
    clear hx h
    simp only
    go_enter Try.func24, Try.ntmps24
    go_wp2_with fail
    refine (at_dead s F lim n L i g _ (H.out.keeps ((Keeps.refl [] w).alloc _) (by simp)) HX.out).mono ?_
    rintro e w1 ⟨rfl, hk⟩
    go_wp2
    go_ret
    have hk2 := ((Keeps.refl [] w).alloc _).trans hk (by simp)
    exact ⟨rfl, H.out.keeps hk2 (by simp), hk2.mono (by simp)⟩
  | some x =>
    obtain ⟨k, v0⟩ := x
    obtain ⟨rfl, hd⟩ := live_some hx
    obtain ⟨A, cap, hv, -, -, hc⟩ := h.opened
    have hkl : k < L.length := (List.getElem?_eq_some_iff.1 hd).1
    obtain ⟨b, off, rfl, hcc⟩ := hc (by omega)
    obtain ⟨-, -, g2⟩ := hcc k _ hd
    have HD := hid hd
    have n1 := fun o => alloc_cell hv o
    have n2 := fun o => alloc_cell g2 o
    clear hx h hcc hd hv g2
    simp only at n2 ⊢
    go_enter Try.func24, Try.ntmps24
    go_wp2_with fail
    refine (at_live s F lim n L k g v0 _ (H.out.keeps ((Keeps.refl [] w).alloc _) (by simp)) HD.out b off cap (n1 _)).mono ?_
    rintro e w1 ⟨rfl, hk⟩
    have n3 := cell_keep hk (by simp) (n2 _)
    have n4 := cell_keep hk (by simp) (n1 _)
    have hk2 := ((Keeps.refl [] w).alloc _).trans hk (by simp)
    obtain ⟨hb, hbs, hfz, -, hst, -⟩ := (H.out.keeps hk2 (by simp)).stores n4 HD.out
    have f2 := hfz (off + k * 3 + 2)
    have HST := hid (hst v)
    have HK := hid hk2
    clear n1 n2 n4 hst hfz hk hk2
    go_wp2
    go_ret
    exact ⟨rfl, HST.out, (HK.out.mono (by simp)).setCell (.inl hb) _⟩
theorem slen_any (s : Nat) (F : List Nat) (lim n : Int) (L : List Slot) (w : World) (h : SRep w s F lim L n) :
    Calls Try.prog 22 #[.pointer (some ⟨s, 0, none⟩)] w fun e w' => e = .returned (.int .i64 n) ∧ Keeps [] w w' := by
  obtain ⟨c2, -⟩ := h.cN
  clear h
  go_enter Try.func22, Try.ntmps22
  go_wp2
  go_ret
  exact ⟨rfl, by (repeat (first | exact Keeps.refl _ _ | apply Keeps.drewN | apply Keeps.alloc))⟩
end Go.Proofs.Ytkeffebcmajhmaa
