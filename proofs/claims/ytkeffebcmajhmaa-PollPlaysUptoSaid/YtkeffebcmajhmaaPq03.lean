/- The slab: Get, Set, Len by contract, of a slab that is there. -/
import Derived.Test.YtkeffebcmajhmaaPq02
import Derived.Deep.QuietTactic
import Derived.BigQuiet
import Derived.StillTailTactics
import Derived.Deep.LoopGhost
import Derived.Deep.RegionHeld3
import Derived.Deep.RegionLaw
import Derived.Deep.DeepCutAuto
namespace Go.Proofs.Ytkeffebcmajhmaa
open Go.RowKit
set_option linter.unusedVariables false
/-- the slot of a Handle in use, and what it has. -/
def live (L : List Slot) (i g : Int) : Option (Nat × Int) :=
  if 0 ≤ i then (match L[i.toNat]? with
    | some d => if d.2.1 = true ∧ d.1 = g then some (i.toNat, d.2.2) else none
    | none => none) else none
theorem live_some {L : List Slot} {i g : Int} {k : Nat} {v : Int} (h : live L i g = some (k, v)) : i = k ∧ L[k]? = some (g, true, v) := by
  unfold live at h
  split at h
  · split at h
    · rename_i h0 d hd
      split at h
      · rename_i hc
        simp at h
        obtain ⟨rfl, rfl⟩ := h
        obtain ⟨d0, d1, d2⟩ := d
        obtain ⟨rfl, rfl⟩ := hc
        exact ⟨by omega, hd⟩
      · cases h
    · cases h
  · cases h
theorem live_none {L : List Slot} {i g : Int} (h : live L i g = none) : i < 0 ∨ (0 ≤ i ∧ (L.length : Int) ≤ i) ∨ ∃ (k : Nat) (g' : Int) (u : Bool) (v : Int), i = k ∧ L[k]? = some (g', u, v) ∧ (u = false ∨ (u = true ∧ g' ≠ g)) := by
  unfold live at h
  split at h
  · rename_i h0
    split at h
    · rename_i d hd
      split at h
      · cases h
      · rename_i hc
        obtain ⟨d0, d1, d2⟩ := d
        refine .inr (.inr ⟨i.toNat, d0, d1, d2, by omega, hd, ?_⟩)
        cases d1 with
        | false => exact .inl rfl
        | true => exact .inr ⟨rfl, fun hx => hc ⟨rfl, hx⟩⟩
    · rename_i hd
      rw [List.getElem?_eq_none_iff] at hd
      exact .inr (.inl ⟨h0, by omega⟩)
  · exact .inl (by omega)
section
variable {w w' : World} {s : Nat} {F : List Nat} {lim n : Int} {L : List Slot}
theorem SRep.setN (h : SRep w s F lim L n) (m : Int) : SRep (w.setCell ⟨s, 2, none⟩ (.int .i64 m)) s F lim L m := by
  obtain ⟨vs, h1, h2, h3, h4, h5⟩ := h
  exact ⟨vs, h1.set_ 2 _, h2.far (fun k e => h2.blk_ne h1 (by decide) k e) _, fun k hk => by simpa [World.setCell] using h3 k hk, h4, h5⟩
theorem SRep.cN (h : SRep w s F lim L n) : w.cell? ⟨s, 2, none⟩ = some (.int .i64 n) ∧ w.cell? ⟨s, 0, none⟩ = some (.int .i64 lim) ∧ (∀ j, w.frozen? ⟨s, j, none⟩ = false) ∧ s ∈ F ∧ s < w.heap.size := by
  obtain ⟨vs, h1, h2, h3, h4, h5⟩ := h
  exact ⟨by simpa using h1.cell 2, by simpa using h1.cell 0, h1.frozen, h4, h1.lt⟩
theorem SRep.stores (h : SRep w s F lim L n) {b off cap : Nat} (hA : w.cell? ⟨s, 1, none⟩ = some (.slice (some ⟨b, off, none⟩) L.length cap)) {k : Nat} {d : Slot} (hd : L[k]? = some d) :
    b ∈ F ∧ b ≠ s ∧ (∀ j, w.frozen? ⟨b, j, none⟩ = false) ∧ (∀ u, SRep (w.setCell ⟨b, off + k * 3 + 1, none⟩ (.bool u)) s F lim (L.set k (d.1, u, d.2.2)) n) ∧ (∀ v, SRep (w.setCell ⟨b, off + k * 3 + 2, none⟩ (.int .i64 v)) s F lim (L.set k (d.1, d.2.1, v)) n) ∧
      (∀ e : Slot, SRep (((w.setCell ⟨b, off + k * 3, none⟩ (.int .i64 e.1)).setCell ⟨b, off + k * 3 + 1, none⟩ (.bool e.2.1)).setCell ⟨b, off + k * 3 + 2, none⟩ (.int .i64 e.2.2)) s F lim (L.set k e) n) := by
  obtain ⟨vs, h1, h2, h3, h4, h5⟩ := h
  have hc1 := h1.cell 1
  rw [hA] at hc1
  simp at hc1
  subst hc1
  have hkl : k < L.length := (List.getElem?_eq_some_iff.1 hd).1
  have hl := slotsV_length L
  have one : ∀ (W : World) (xs : List Value) (j : Nat) (u : Value), Row W 136 3 (.slice (some ⟨b, off, none⟩) L.length cap) L.length xs → j < xs.length →
      Row (W.setCell ⟨b, off + j, none⟩ u) 136 3 (.slice (some ⟨b, off, none⟩) L.length cap) L.length (xs.set j u) := by
    intro W xs j u hr hj
    obtain ⟨g, o, c, hv, -, -, -, -, hs⟩ := hr.open_ (by omega)
    injection hv with hv
    injection hv with hv
    injection hv with e1 e2
    subst e1 e2
    exact hs j u hj
  obtain ⟨g, o, c, hv, -, -, -, hfz, -⟩ := h2.open_ (by omega)
  injection hv with hv
  injection hv with hv
  injection hv with e1 e2
  subst e1 e2
  have hne : s ≠ b := fun e => h2.blk_ne h1 (by decide) b (by simp [Value.ownBlock]) e.symm
  refine ⟨h5 b (by simp [Value.ownBlock]), Ne.symm hne, hfz, fun u => ?_, fun v => ?_, fun e => ?_⟩
  · have hr := one w _ (k * 3 + 1) (.bool u) h2 (by omega)
    rw [slotsV_used L k d u hd, ← Nat.add_assoc] at hr
    exact ⟨_, h1.far (p := ⟨b, _, none⟩) hne _, by simpa using hr, fun j hj => by simpa [World.setCell] using h3 j hj, h4, h5⟩
  · have hr := one w _ (k * 3 + 2) (.int .i64 v) h2 (by omega)
    rw [slotsV_v L k d v hd, ← Nat.add_assoc] at hr
    exact ⟨_, h1.far (p := ⟨b, _, none⟩) hne _, by simpa using hr, fun j hj => by simpa [World.setCell] using h3 j hj, h4, h5⟩
  · have hr := one _ _ (k * 3 + 2) (.int .i64 e.2.2) (one _ _ (k * 3 + 1) (.bool e.2.1) (one w _ (k * 3) (.int .i64 e.1) h2 (by omega)) (by simp; omega)) (by simp; omega)
    rw [slotsV_set L k d e hd, ← Nat.add_assoc, ← Nat.add_assoc] at hr
    exact ⟨_, ((h1.far (p := ⟨b, _, none⟩) hne _).far (p := ⟨b, _, none⟩) hne _).far (p := ⟨b, _, none⟩) hne _, by simpa using hr, fun j hj => by simpa [World.setCell] using h3 j hj, h4, h5⟩
end
theorem at_live (s : Nat) (F : List Nat) (lim n : Int) (L : List Slot) (k : Nat) (g v : Int) (w : World) (h : SRep w s F lim L n) (hd : L[k]? = some (g, true, v)) (b off cap : Nat) (hA : w.cell? ⟨s, 1, none⟩ = some (.slice (some ⟨b, off, none⟩) L.length cap)) :
    Calls Try.prog 71 #[.pointer (some ⟨s, 0, none⟩), .agg #[.int .i64 k, .int .i64 g]] w fun e w' => e = .returned (.pointer (some ⟨b, off + k * 3, none⟩)) ∧ Keeps [] w w' := by
  obtain ⟨A, cap', hv, hl, hm, hc⟩ := h.opened
  have hk : k < L.length := (List.getElem?_eq_some_iff.1 hd).1
  obtain ⟨b', off', rfl, hcc⟩ := hc (by omega)
  rw [hA] at hv
  simp at hv
  obtain ⟨⟨rfl, rfl⟩, rfl⟩ := hv
  obtain ⟨g0, g1, -⟩ := hcc k _ hd
  exact at_hit s k g b off L.length cap w hA hk g0 g1
theorem at_dead (s : Nat) (F : List Nat) (lim n : Int) (L : List Slot) (i g : Int) (w : World) (h : SRep w s F lim L n) (hl : live L i g = none) :
    Calls Try.prog 71 #[.pointer (some ⟨s, 0, none⟩), .agg #[.int .i64 i, .int .i64 g]] w fun e w' => e = .returned (.pointer none) ∧ Keeps [] w w' := by
  obtain ⟨A, cap, hv, h1, h2, hc⟩ := h.opened
  rcases live_none hl with h0 | ⟨h0, h3⟩ | ⟨k, g', u, v, rfl, hd, hm⟩
  · exact at_out s i g A L.length cap w hv (.inl h0)
  · exact at_out s i g A L.length cap w hv (.inr ⟨h0, h3⟩)
  · have hk : k < L.length := (List.getElem?_eq_some_iff.1 hd).1
    obtain ⟨b, off, rfl, hcc⟩ := hc (by omega)
    obtain ⟨g0, g1, -⟩ := hcc k _ hd
    exact at_miss s k g g' u b off L.length cap w hv hk g0 g1 hm
/-- what Get answers. -/
def getR (L : List Slot) (i g : Int) : Int × Int := match live L i g with
  | some (_, v) => (v, 0)
  | none => (0, 10)
theorem sget_any (s : Nat) (F : List Nat) (lim n : Int) (L : List Slot) (i g : Int) (w : World) (h : SRep w s F lim L n) :
    Calls Try.prog 23 #[.pointer (some ⟨s, 0, none⟩), .agg #[.int .i64 i, .int .i64 g]] w fun e w' => e = .returned (.tuple #[.int .i64 (getR L i g).1, .int .i64 (getR L i g).2]) ∧ Keeps [] w w' := by
  obtain ⟨x, hx⟩ : ∃ x, live L i g = x := ⟨_, rfl⟩
  unfold getR
  rw [hx]
  have H := hid h
  cases x with
  | none =>
    have HX := hid hx
    clear hx h
    simp only
    go_enter Try.func23, Try.ntmps23
    go_wp2_with fail
    refine (at_dead s F lim n L i g _ (H.out.keeps ((Keeps.refl [] w).alloc _) (by simp)) HX.out).mono ?_
    rintro e w1 ⟨rfl, hk⟩
    go_wp2
    go_ret2
    exact ⟨rfl, ((Keeps.refl [] w).alloc _).trans hk (by simp)⟩
  | some x =>
    obtain ⟨k, v⟩ := x
    obtain ⟨rfl, hd⟩ := live_some hx
    obtain ⟨A, cap, hv, -, -, hc⟩ := h.opened
    have hkl : k < L.length := (List.getElem?_eq_some_iff.1 hd).1
    obtain ⟨b, off, rfl, hcc⟩ := hc (by omega)
    obtain ⟨-, -, g2⟩ := hcc k _ hd
    have HD := hid hd
    have n1 := fun o => alloc_cell hv o
    have n2 := fun o => alloc_cell g2 o
    clear hx h hcc hd hv g2
    simp only at n2 ⊢
    go_enter Try.func23, Try.ntmps23
    go_wp2_with fail
    refine (at_live s F lim n L k g v _ (H.out.keeps ((Keeps.refl [] w).alloc _) (by simp)) HD.out b off cap (n1 _)).mono ?_
    rintro e w1 ⟨rfl, hk⟩
    have n3 := cell_keep hk (by simp) (n2 _)
    clear n1 n2
    go_wp2
    go_ret2
    exact ⟨rfl, ((Keeps.refl [] w).alloc _).trans hk (by simp)⟩
/-- what Set makes. -/
def setR (L : List Slot) (i g v : Int) : List Slot × Int := match live L i g with
  | some (k, _) => (L.set k (g, true, v), 0)
  | none => (L, 10)
theorem sset_any (s : Nat) (F : List Nat) (lim n : Int) (L : List Slot) (i g v : Int) (w : World) (h : SRep w s F lim L n) :
    Calls Try.prog 24 #[.pointer (some ⟨s, 0, none⟩), .agg #[.int .i64 i, .int .i64 g], .int .i64 v] w fun e w' => e = .returned (.int .i64 (setR L i g v).2) ∧ SRep w' s F lim (setR L i g v).1 n ∧ Keeps F w w' := by
  obtain ⟨x, hx⟩ : ∃ x, live L i g = x := ⟨_, rfl⟩
  unfold setR
  rw [hx]
  have H := hid h
  cases x with
  | none =>
    have HX := hid hx
    clear hx h
    simp only
    go_enter Try.func24, Try.ntmps24
    go_wp2_with fail
    refine (at_dead s F lim n L i g _ (H.out.keeps ((Keeps.refl [] w).alloc _) (by simp)) HX.out).mono ?_
    rintro e w1 ⟨rfl, hk⟩
    go_wp2
    go_ret
    have hk2 := ((Keeps.refl [] w).alloc _).trans hk (by simp)
    exact ⟨rfl, H.out.keeps hk2 (by simp), hk2.mono (by simp)⟩
  | some x =>
    obtain ⟨k, v0⟩ := x
    obtain ⟨rfl, hd⟩ := live_some hx
    obtain ⟨A, cap, hv, -, -, hc⟩ := h.opened
    have hkl : k < L.length := (List.getElem?_eq_some_iff.1 hd).1
    obtain ⟨b, off, rfl, hcc⟩ := hc (by omega)
    obtain ⟨-, -, g2⟩ := hcc k _ hd
    have HD := hid hd
    have n1 := fun o => alloc_cell hv o
    have n2 := fun o => alloc_cell g2 o
    clear hx h hcc hd hv g2
    simp only at n2 ⊢
    go_enter Try.func24, Try.ntmps24
    go_wp2_with fail
    refine (at_live s F lim n L k g v0 _ (H.out.keeps ((Keeps.refl [] w).alloc _) (by simp)) HD.out b off cap (n1 _)).mono ?_
    rintro e w1 ⟨rfl, hk⟩
    have n3 := cell_keep hk (by simp) (n2 _)
    have n4 := cell_keep hk (by simp) (n1 _)
    have hk2 := ((Keeps.refl [] w).alloc _).trans hk (by simp)
    obtain ⟨hb, hbs, hfz, -, hst, -⟩ := (H.out.keeps hk2 (by simp)).stores n4 HD.out
    have f2 := hfz (off + k * 3 + 2)
    have HST := hid (hst v)
    have HK := hid hk2
    clear n1 n2 n4 hst hfz hk hk2
    go_wp2
    go_ret
    exact ⟨rfl, HST.out, (HK.out.mono (by simp)).setCell (.inl hb) _⟩
theorem slen_any (s : Nat) (F : List Nat) (lim n : Int) (L : List Slot) (w : World) (h : SRep w s F lim L n) :
    Calls Try.prog 22 #[.pointer (some ⟨s, 0, none⟩)] w fun e w' => e = .returned (.int .i64 n) ∧ Keeps [] w w' := by
  obtain ⟨c2, -⟩ := h.cN
  clear h
  go_enter Try.func22, Try.ntmps22
  go_wp2
  go_ret
  exact ⟨rfl, by (repeat (first | exact Keeps.refl _ _ | apply Keeps.drewN | apply Keeps.alloc))⟩
end Go.Proofs.Ytkeffebcmajhmaa
/- The slab: Put by contract. -/
namespace Go.Proofs.Ytkeffebcmajhmaa
open Go.RowKit
set_option linter.unusedVariables false
theorem sput_nil (v : Int) (w : World) : Calls Try.prog 20 #[.pointer none, .int .i64 v] w fun e w' => e = .returned (.tuple #[.agg #[.int .i64 0, .int .i64 0], .int .i64 1]) ∧ Keeps [] w w' := by
  go_enter Try.func20, Try.ntmps20
  go_wp2
  exact bodyPost_ret (v := .tuple #[.agg #[.int .i64 0, .int .i64 0], .int .i64 1]) (by simp [results, Try.results20, go_sem]) rfl ⟨rfl, ((Keeps.refl [] w).alloc _)⟩
theorem sput_full (s : Nat) (F : List Nat) (lim : Int) (L : List Slot) (v : Int) (w : World) (h : SRep w s F lim L lim) :
    Calls Try.prog 20 #[.pointer (some ⟨s, 0, none⟩), .int .i64 v] w fun e w' => e = .returned (.tuple #[.agg #[.int .i64 0, .int .i64 0], .int .i64 3]) ∧ Keeps [] w w' := by
  obtain ⟨c2, c0, -⟩ := h.cN
  have n0 := fun o => alloc_cell c0 o
  have n2 := fun o => alloc_cell c2 o
  clear h c2 c0
  go_enter Try.func20, Try.ntmps20
  go_wp2_with fail
  go_quiet (fail)
  go_wp2
  exact bodyPost_ret (v := .tuple #[.agg #[.int .i64 0, .int .i64 0], .int .i64 3]) (by simp [results, Try.results20, go_sem]) rfl ⟨rfl, by (repeat (first | exact Keeps.refl _ _ | exact .inr (Nat.le_refl _) | apply Keeps.drewN | apply Keeps.alloc | apply Keeps.setCell))⟩
/-- the least slot that is free. -/
def freeAt (L : List Slot) : Nat := L.findIdx fun d => !d.2.1
theorem freeAt_le (L : List Slot) : freeAt L ≤ L.length := List.findIdx_le_length
theorem freeAt_used {L : List Slot} {j : Nat} {d : Slot} (h : j < freeAt L) (hd : L[j]? = some d) : d.2.1 = true := by
  have h1 := List.not_of_lt_findIdx (p := fun d : Slot => !d.2.1) (xs := L) (i := j) h
  have h2 := (List.getElem?_eq_some_iff.1 hd)
  obtain ⟨h3, h4⟩ := h2
  rw [h4] at h1
  simpa using h1
theorem freeAt_free {L : List Slot} {d : Slot} (hd : L[freeAt L]? = some d) : d.2.1 = false := by
  obtain ⟨h3, h4⟩ := List.getElem?_eq_some_iff.1 hd
  have h1 := List.findIdx_getElem (p := fun d : Slot => !d.2.1) (xs := L) (w := h3)
  have h5 : L[freeAt L] = d := h4
  unfold freeAt at h5
  rw [h5] at h1
  simpa using h1
/-- what Put makes of the slots, and the Handle's count. -/
def putL (L : List Slot) (v : Int) : List Slot := match L[freeAt L]? with
  | some d => L.set (freeAt L) (d.1 + 1, true, v)
  | none => L ++ [(1, true, v)]
def putG (L : List Slot) : Int := match L[freeAt L]? with
  | some d => d.1 + 1
  | none => 1
def Put (w : World) (s : Nat) (F : List Nat) (lim n v : Int) (L : List Slot) (e : Ending) (w' : World) : Prop :=
  e = .returned (.tuple #[.agg #[.int .i64 (freeAt L : Nat), .int .i64 (putG L)], .int .i64 0]) ∧ (∃ F', SRep w' s F' lim (putL L v) (n + 1) ∧ Later F w F') ∧ Keeps F w w'
/-- what the stores of Put leave, the slot being there. -/
theorem put_done {w : World} {s b off cap j m : Nat} {F : List Nat} {lim n : Int} {L : List Slot} {d : Slot} {o : Obj} (h : SRep w s F lim L n) (hs : s ∈ F) (hb : b ∈ F) (hd : L[j]? = some d)
    (hv : (w.alloc o).cell? ⟨s, 1, none⟩ = some (.slice (some ⟨b, off, none⟩) L.length cap)) (v : Int) {x y : Value} :
    (∃ F', SRep (((((((( w.alloc o).drewN m).setCell ⟨b, off + j * 3, none⟩ (.int .i64 (d.1 + 1))).setCell ⟨b, off + j * 3 + 1, none⟩ (.bool true)).setCell ⟨b, off + j * 3 + 2, none⟩ (.int .i64 v)).setCell ⟨s, 2, none⟩ (.int .i64 (n + 1))).setCell ⟨w.heap.size, 0, none⟩ x).setCell ⟨w.heap.size, 1, none⟩ y) s F' lim (L.set j (d.1 + 1, true, v)) (n + 1) ∧ Later F w F') ∧
      Keeps F w (((((((( w.alloc o).drewN m).setCell ⟨b, off + j * 3, none⟩ (.int .i64 (d.1 + 1))).setCell ⟨b, off + j * 3 + 1, none⟩ (.bool true)).setCell ⟨b, off + j * 3 + 2, none⟩ (.int .i64 v)).setCell ⟨s, 2, none⟩ (.int .i64 (n + 1))).setCell ⟨w.heap.size, 0, none⟩ x).setCell ⟨w.heap.size, 1, none⟩ y) := by
  have h0 : SRep ((w.alloc o).drewN m) s F lim L n := h.keeps (((Keeps.refl [] w).alloc o).drewN m) (by simp)
  obtain ⟨-, -, -, -, -, hst⟩ := h0.stores hv hd
  have h1 := (hst (d.1 + 1, true, v)).setN (n + 1)
  have hw : ∀ k ∈ F, k ∉ [w.heap.size] := fun k hk hx => by
    have := h.flt k hk
    simp at hx
    omega
  refine ⟨⟨F, h1.keeps (((Keeps.refl [w.heap.size] _).setCell (p := ⟨w.heap.size, 0, none⟩) (.inl (by simp)) x).setCell (p := ⟨w.heap.size, 1, none⟩) (.inl (by simp)) y) hw, Later.refl _ _⟩, ?_⟩
  exact ((((((((Keeps.refl F w).alloc o).drewN m).setCell (.inl hb) _).setCell (.inl hb) _).setCell (.inl hb) _).setCell (.inl hs) _).setCell (.inr (Nat.le_refl _)) _).setCell (.inr (Nat.le_refl _)) _
set_option maxRecDepth 100000 in
set_option maxHeartbeats 1000000 in
theorem sput_old (s : Nat) (F : List Nat) (lim n : Int) (L : List Slot) (d : Slot) (v : Int) (w : World) (h : SRep w s F lim L n) (hn : (n == lim) = false) (hd : L[freeAt L]? = some d) (hg0 : 0 ≤ d.1) (hg1 : d.1 ≤ 1099511627776) (hn0 : -1099511627776 ≤ n) (hn1 : n ≤ 1099511627776) :
    Calls Try.prog 20 #[.pointer (some ⟨s, 0, none⟩), .int .i64 v] w (Put w s F lim n v L) := by
  obtain ⟨c2, c0, hfs, hsF, hsl⟩ := h.cN
  have H := hid h
  obtain ⟨A, cap, hv, h1, h2, hc⟩ := h.opened
  obtain ⟨k, hk⟩ : ∃ k, freeAt L = k := ⟨_, rfl⟩
  have hkl : k < L.length := by rw [← hk]; exact (List.getElem?_eq_some_iff.1 hd).1
  obtain ⟨b, off, rfl, hcc⟩ := hc (by omega)
  have HU : Hid (∀ j, j < k → w.cell? ⟨b, off + j * 3 + 1, none⟩ = some (.bool true)) := by
    refine hid fun j hj => ?_
    have h3 := (hcc j (L[j]'(by omega)) (List.getElem?_eq_getElem (by omega))).2.1
    rw [freeAt_used (by omega) (List.getElem?_eq_getElem (by omega))] at h3
    exact h3
  rw [hk] at hd
  obtain ⟨g0, g1, g2⟩ := hcc k d hd
  rw [freeAt_free (by rw [hk]; exact hd)] at g1
  have n0 := fun o => alloc_cell c0 o
  have n1 := fun o => alloc_cell hv o
  have n2 := fun o => alloc_cell c2 o
  have n3 := fun o => alloc_cell g0 o
  have n4 := fun o => alloc_cell g1 o
  have n5 := fun o => alloc_cell g2 o
  have HD := hid hd
  have HK := hid hk
  obtain ⟨hbF, hbs, hfz, -, -, hst⟩ := h.stores hv hd
  have hbl : b < w.heap.size := h.flt b hbF
  clear h hc hcc c0 c2 hv g0 g1 g2 hd hk hst
  unfold Put putL putG
  rw [HK.out, HD.out]
  simp only
  have hw1 : IntKind.i64.wrap (d.1 + 1) = d.1 + 1 := IntWalk.i64_in _ (by omega)
  go_enter Try.func20, Try.ntmps20
  go_wp2_with fail
  go_quiet (fail)
  go_wp2_with fail
  go_loop [6] (fun i => ∃ j : Nat, j ≤ k ∧ i = .int .i64 j) (fun i => L.length - (intOf i).toNat)
  case atStart => exact ⟨0, Nat.zero_le _, rfl⟩
  case round =>
    obtain ⟨j, hj, rfl⟩ := hrel
    by_cases hlt : j < k
    · have hcj := fun o => alloc_cell (HU.out j hlt) o
      have hji : (j : Int) < L.length := by omega
      go_wp2_with fail
      go_round
      case rel => exact ⟨j + 1, by omega, by go_num⟩
      case measure => simp [intOf] <;> omega
    · have hji : j = k := by omega
      subst hji
      have hji : (j : Int) < L.length := by omega
      have hjn : ((j : Int) == L.length) = false := by simp; omega
      go_wp2_with fail
      go_region_law (fail)
      all_goals
        go_wp2_with fail
        refine bodyPost_ret (v := .tuple #[.agg #[.int .i64 j, .int .i64 (d.1 + 1)], .int .i64 0]) (by simp [results, Try.results20, go_sem]) rfl ⟨rfl, ?_⟩
        exact put_done H.out hsF hbF HD.out (n1 _) v
end Go.Proofs.Ytkeffebcmajhmaa
/- The slab: Put of a new slot. -/
namespace Go.Proofs.Ytkeffebcmajhmaa
open Go.RowKit
set_option linter.unusedVariables false
theorem Blk.newAt {w : World} {t : TypeId} {cs : Array Value} {H : Nat} (h : w.heap.size = H) : Blk (w.alloc (.cells cs t)) H t cs := by
  subst h
  exact Blk.new w t cs
theorem reads_blk3 {w : World} {g : Nat} {t : TypeId} {u v x : Value} (h : Blk w g t #[u, v, x]) : Reads w 3 (some ⟨g, 0, none⟩) 1 [u, v, x] :=
  ⟨rfl, fun _ => ⟨_, rfl, fun j y hj => by
    rw [Addr.add_lit, Nat.zero_add, h.cell]
    simpa using hj⟩⟩
theorem slotsV_snoc (L : List Slot) (g : Int) (u : Bool) (v : Int) : slotsV L ++ [.int .i64 g, .bool u, .int .i64 v] = slotsV (L ++ [(g, u, v)]) := by simp [slotsV]
/-- what the stores of Put leave, in any world. -/
theorem put_at {W : World} {s b off cap j r m : Nat} {F : List Nat} {lim n : Int} {L : List Slot} {d : Slot} (h : SRep W s F lim L n) (hs : s ∈ F) (hb : b ∈ F) (hd : L[j]? = some d)
    (hv : W.cell? ⟨s, 1, none⟩ = some (.slice (some ⟨b, off, none⟩) L.length cap)) (v : Int) (hr : r ∉ F) {x y : Value} :
    SRep (((((((W.drewN m).setCell ⟨b, off + j * 3, none⟩ (.int .i64 (d.1 + 1))).setCell ⟨b, off + j * 3 + 1, none⟩ (.bool true)).setCell ⟨b, off + j * 3 + 2, none⟩ (.int .i64 v)).setCell ⟨s, 2, none⟩ (.int .i64 (n + 1))).setCell ⟨r, 0, none⟩ x).setCell ⟨r, 1, none⟩ y) s F lim (L.set j (d.1 + 1, true, v)) (n + 1) := by
  have h0 : SRep (W.drewN m) s F lim L n := h.keeps ((Keeps.refl [] W).drewN m) (by simp)
  obtain ⟨-, -, -, -, -, hst⟩ := h0.stores hv hd
  have h1 := (hst (d.1 + 1, true, v)).setN (n + 1)
  have hw : ∀ k ∈ F, k ∉ [r] := fun k hk hx => by
    simp at hx
    subst hx
    exact hr hk
  exact h1.keeps (((Keeps.refl [r] _).setCell (p := ⟨r, 0, none⟩) (.inl (by simp)) x).setCell (p := ⟨r, 1, none⟩) (.inl (by simp)) y) hw
theorem put_new_done {w w2 : World} {s b2 off2 q2 nq cap : Nat} {A : Option Addr} {F : List Nat} {lim n v : Int} {L : List Slot} (h : SRep w s F lim L n) (hsF : s ∈ F) (g5 : ∀ k, (Value.slice A L.length cap).ownBlock = some k → k ∈ F)
    (hk2 : Keeps (Value.slice A L.length cap).ownBlock.toList (((w.alloc (.cells #[.int .i64 0, .int .i64 0] 30)).drewN nq).alloc (.cells #[.int .i64 0, .bool false, .int .i64 0] 136)) w2)
    (ho2 : ∀ k, (Value.slice (some ⟨b2, off2, none⟩) (L.length + 1) q2).ownBlock = some k → (Value.slice A L.length cap).ownBlock = some k ∨ (((w.alloc (.cells #[.int .i64 0, .int .i64 0] 30)).drewN nq).alloc (.cells #[.int .i64 0, .bool false, .int .i64 0] 136)).heap.size ≤ k)
    (hv2 : Row w2 136 3 (.slice (some ⟨b2, off2, none⟩) (L.length + 1) q2) (L.length + 1) (slotsV L ++ [.int .i64 0, .bool false, .int .i64 0])) (bs2 : Blk w2 s 134 #[.int .i64 lim, .slice A L.length cap, .int .i64 n]) (hb2 : b2 < w2.heap.size)
    (hnr : b2 ≠ w.heap.size) (k1 : w2.cell? ⟨s, 1, none⟩ = some (.slice A L.length cap)) :
    (∃ F', SRep ((((((((w2.setCell ⟨s, 1, none⟩ (.slice (some ⟨b2, off2, none⟩) (L.length + 1) q2)).setCell ⟨b2, off2 + L.length * 3, none⟩ (.int .i64 1)).setCell ⟨b2, off2 + L.length * 3 + 1, none⟩ (.bool true)).setCell ⟨b2, off2 + L.length * 3 + 2, none⟩ (.int .i64 v)).setCell ⟨s, 2, none⟩ (.int .i64 (n + 1))).setCell ⟨w.heap.size, 0, none⟩ (.int .i64 L.length)).setCell ⟨w.heap.size, 1, none⟩ (.int .i64 1)).drew) s F' lim (L ++ [(1, true, v)]) (n + 1) ∧ Later F w F') ∧
      Keeps F w ((((((((w2.setCell ⟨s, 1, none⟩ (.slice (some ⟨b2, off2, none⟩) (L.length + 1) q2)).setCell ⟨b2, off2 + L.length * 3, none⟩ (.int .i64 1)).setCell ⟨b2, off2 + L.length * 3 + 1, none⟩ (.bool true)).setCell ⟨b2, off2 + L.length * 3 + 2, none⟩ (.int .i64 v)).setCell ⟨s, 2, none⟩ (.int .i64 (n + 1))).setCell ⟨w.heap.size, 0, none⟩ (.int .i64 L.length)).setCell ⟨w.heap.size, 1, none⟩ (.int .i64 1)).drew) := by
  have hv := hv2
  rw [slotsV_snoc L 0 false 0, show L.length + 1 = (L ++ [((0 : Int), false, (0 : Int))]).length by simp] at hv
  have hfr : ∀ k ∈ F, k < w.heap.size := h.flt
  have hbF : b2 ∈ F ∨ w.heap.size + 2 ≤ b2 := by
    rcases ho2 b2 rfl with h | h
    · exact .inl (g5 b2 h)
    · right
      simpa using h
  have hsz := hk2.size
  simp at hsz
  have hS : SRep (w2.setCell ⟨s, 1, none⟩ (.slice (some ⟨b2, off2, none⟩) (L ++ [((0 : Int), false, (0 : Int))]).length q2)) s (b2 :: F) lim (L ++ [((0 : Int), false, (0 : Int))]) n := by
    refine ⟨_, bs2.set_ 1 _, hv.far (p := ⟨s, 1, none⟩) (fun k hk => hv.blk_ne bs2 (by decide) k hk) _, fun k hk => ?_, by simp [hsF], fun k hk => ?_⟩
    · rcases List.mem_cons.1 hk with rfl | hk
      · simpa [World.setCell] using hb2
      · have h1 := hfr k hk
        simp [World.setCell]
        omega
    · simp [Value.ownBlock] at hk
      simp [hk]
  have hrF : w.heap.size ∉ b2 :: F := fun hx => by
    rcases List.mem_cons.1 hx with h | h
    · exact hnr h.symm
    · have := hfr _ h
      omega
  have hb : b2 ∈ F ∨ w.heap.size ≤ b2 := by
    rcases hbF with h | h
    · exact .inl h
    · exact .inr (by omega)
  have hc : (w2.setCell ⟨s, 1, none⟩ (.slice (some ⟨b2, off2, none⟩) (L ++ [((0 : Int), false, (0 : Int))]).length q2)).cell? ⟨s, 1, none⟩ = some (.slice (some ⟨b2, off2, none⟩) (L ++ [((0 : Int), false, (0 : Int))]).length q2) := by
    rw [(bs2.set_ 1 _).cell 1]
    rfl
  refine ⟨⟨b2 :: F, ?_, fun k hk => ?_⟩, ?_⟩
  · have h3 := put_at (m := 0) hS (by simp [hsF]) (by simp) (j := L.length) (d := (0, false, 0)) (by simp) hc v hrF (x := .int .i64 L.length) (y := .int .i64 1)
    have e : (L ++ [((0 : Int), false, (0 : Int))]).set L.length (0 + 1, true, v) = L ++ [(1, true, v)] := by
      rw [List.set_append_right _ _ (Nat.le_refl _)]
      simp
    rw [e] at h3
    have h4 := h3.keeps ((Keeps.refl [] _).drew) (by simp)
    rw [show (L ++ [((0 : Int), false, (0 : Int))]).length = L.length + 1 by simp] at h4
    exact h4
  · rcases List.mem_cons.1 hk with rfl | hk
    · exact hb
    · exact .inl hk
  · have hk := ((((Keeps.refl F w).alloc (.cells #[.int .i64 0, .int .i64 0] 30)).drewN nq).alloc (.cells #[.int .i64 0, .bool false, .int .i64 0] 136)).trans hk2 (fun k hk => .inl (g5 k (by simpa using hk)))
    exact (((((((hk.setCell (p := ⟨s, 1, none⟩) (.inl hsF) _).setCell (p := ⟨b2, _, none⟩) hb _).setCell (p := ⟨b2, _, none⟩) hb _).setCell (p := ⟨b2, _, none⟩) hb _).setCell (p := ⟨s, 2, none⟩) (.inl hsF) _).setCell (p := ⟨w.heap.size, 0, none⟩) (.inr (Nat.le_refl _)) _).setCell (p := ⟨w.heap.size, 1, none⟩) (.inr (Nat.le_refl _)) _).drew
set_option maxRecDepth 100000 in
set_option maxHeartbeats 1000000 in
theorem sput_new (s : Nat) (F : List Nat) (lim n : Int) (L : List Slot) (v : Int) (w : World) (h : SRep w s F lim L n) (hn : (n == lim) = false) (hd : freeAt L = L.length) (hL : L.length ≤ 1099511627776) (hn0 : -1099511627776 ≤ n) (hn1 : n ≤ 1099511627776) :
    Calls Try.prog 20 #[.pointer (some ⟨s, 0, none⟩), .int .i64 v] w (Put w s F lim n v L) := by
  obtain ⟨i1, hi1, hy0, hy1, hy2⟩ := info_parts slot_info
  obtain ⟨c2, c0, hfs, hsF, hsl⟩ := h.cN
  have H := hid h
  obtain ⟨A, cap, hv, h1, h2, hc⟩ := h.opened
  have HU : Hid (∀ j, j < L.length → ∃ b off, A = some ⟨b, off, none⟩ ∧ w.cell? ⟨b, off + j * 3 + 1, none⟩ = some (.bool true)) := by
    refine hid fun j hj => ?_
    obtain ⟨b, off, rfl, hcc⟩ := hc (by omega)
    have h3 := (hcc j (L[j]'(by omega)) (List.getElem?_eq_getElem (by omega))).2.1
    rw [freeAt_used (by omega) (List.getElem?_eq_getElem (by omega))] at h3
    exact ⟨b, off, rfl, h3⟩
  have HROW : Hid (Row w 136 3 (.slice A L.length cap) L.length (slotsV L)) := by
    obtain ⟨vs, g1, g2, -⟩ := h
    have := g1.cell 1
    rw [hv] at this
    simp at this
    rw [← this] at g2
    exact hid g2
  have n0 := fun o => alloc_cell c0 o
  have n1 := fun o => alloc_cell hv o
  have n2 := fun o => alloc_cell c2 o
  have HD := hid hd
  clear h hc c0 c2 hv hd
  unfold Put putL putG
  rw [HD.out, List.getElem?_eq_none (Nat.le_refl _)]
  simp only
  go_enter Try.func20, Try.ntmps20
  go_wp2_with fail
  go_quiet (fail)
  go_wp2_with fail
  go_loop [6] (fun i => ∃ j : Nat, j ≤ L.length ∧ i = .int .i64 j) (fun i => L.length - (intOf i).toNat)
  case atStart => exact ⟨0, Nat.zero_le _, rfl⟩
  case round =>
    obtain ⟨j, hj, rfl⟩ := hrel
    by_cases hlt : j < L.length
    · obtain ⟨b, off, rfl, hcj0⟩ := HU.out j hlt
      have hcj := fun o => alloc_cell hcj0 o
      have hji : (j : Int) < L.length := by omega
      clear hcj0
      go_wp2_with fail
      go_round
      case rel => exact ⟨j + 1, by omega, by go_num⟩
      case measure => simp [intOf] <;> omega
    · have hji : j = L.length := by omega
      subst hji
      obtain ⟨vs0, g1, -, g3, -, g5⟩ := H.out
      have hvs : vs0 = .slice A L.length cap := by
        have h1 := alloc_cell (g1.cell 1) (.cells #[] 3)
        simp [n1] at h1
        exact h1.symm
      subst hvs
      have G1 := hid g1
      have hsA : s ∉ (Value.slice A L.length cap).ownBlock.toList := fun hx => HROW.out.blk_ne G1.out (by decide) s (by simpa using hx) rfl
      have hrA : w.heap.size ∉ (Value.slice A L.length cap).ownBlock.toList := fun hx => by
        have := HROW.out.lt w.heap.size (by simpa using hx)
        omega
      have HSA := hid hsA
      have HRA := hid hrA
      clear g1 hsA hrA
      go_wp2_with (at_builtin; refine wpList_append_row _ rfl (.tmp 52) (.tmp 54) _ rfl 136 i1 _ 3 24 Try.underlying132 hi1 hy0 hy1 hy2 rfl (by omega) (.slice A L.length cap) L.length _ rfl (((HROW.out.alloc _).drewN _).alloc _) (some ⟨w.heap.size + 1, 0, none⟩) 1 1 [.int .i64 0, .bool false, .int .i64 0] rfl (reads_blk3 (Blk.newAt (by simp))) (by simp [Value.oneCell']) (by simp only [maxLen]; omega) (by omega) ?_; intro v2 w2 hv2 hk2 ho2; obtain ⟨b2, off2, q2, rfl, hq2, hb2, hcell, hfz, -⟩ := hv2.open_ (by omega); have bs2 := (((G1.out.alloc _).drewN _).alloc _).keeps hk2 HSA.out; have br2 := (((Blk.new w _ _).drewN _).alloc _).keeps hk2 HRA.out; have HV2 := hid hv2; have HK2 := hid hk2; have HO2 := hid ho2; have e0 := hcell (L.length * 3) (.int .i64 0) (by simp [slotsV_length]); have e1 := hcell (L.length * 3 + 1) (.bool false) (by simp [slotsV_length]); have e2 := hcell (L.length * 3 + 2) (.int .i64 0) (by simp [slotsV_length]); rw [← Nat.add_assoc] at e1 e2; clear hv2 hk2 ho2 hcell; have k1 := bs2.cell 1; have k2 := bs2.cell 2; have k3 := bs2.frozen 1; have k4 := bs2.frozen 2; have r0 := br2.cell 0; have r1 := br2.cell 1; have r2 := br2.frozen 0; have r3 := br2.frozen 1; have BS2 := hid bs2; have BR2 := hid br2; simp at k1 k2 r0 r1; have hnb : b2 ≠ s := (fun hx => HV2.out.blk_ne BS2.out (by decide) b2 rfl hx); have hnr : b2 ≠ w.heap.size := (fun hx => HV2.out.blk_ne BR2.out (by decide) b2 rfl hx); have hsr : s ≠ w.heap.size := (by omega); clear bs2 br2)
      have hlL : (L.length : Int) < (L.length : Int) + 1 := by omega
      go_region_law (fail)
      all_goals
        go_wp2_with fail
        refine bodyPost_ret (v := .tuple #[.agg #[.int .i64 L.length, .int .i64 1], .int .i64 0]) (by simp [results, Try.results20, go_sem, r0, r1]) rfl ⟨rfl, ?_⟩
        exact put_new_done H.out hsF g5 HK2.out HO2.out HV2.out BS2.out hb2 hnr k1
end Go.Proofs.Ytkeffebcmajhmaa
/- The program's net: New, at, theirs, ours by contract. -/
namespace Go.Proofs.Ytkeffebcmajhmaa
open Go.RowKit
set_option linter.unusedVariables false
def pc : Cfg where
  T := 145
  PT := 143
  NT := 142
  lay := fun d vi vo vt => #[.bool d.waits, .bool d.opn, .bool d.broken, .int .i64 d.peer, .bool d.halved, .bool d.shut, .bool d.taken, vi, .int .i64 d.window, .int .i64 d.reads, .int .i64 d.writes, vo, vt]
  nlay := fun N vc vq => #[.int .i64 N.backlog, vc, vq, .bool N.stopped, .int .i64 N.fails, .int .i64 N.marks, .int .i64 N.nopen]
/-- the answer of somebody's side; of the server's. -/
def theirsD (d : Cn) : Int := if d.broken then 5 else if d.waits || d.opn then 0 else 6
def oursD (d : Cn) : Int := if d.waits then 2 else if d.opn then (if d.broken then 5 else 0) else 6
def ptrIf (e : Int) (p : Nat) : Value := if e = 0 then .pointer (some ⟨p, 0, none⟩) else .pointer none
section
variable {w w' : World} {n : Nat} {F : List Nat} {own : Nat → Nat} {ps : List Nat} {vc vq : Value} {N : NS}
/-- where a connection lies. -/
theorem NAt.conn {c : Cfg} (h : NAt c w n F own ps vc vq N) {k : Nat} {d : Cn} (hd : N.cs[k]? = some d) : ∃ p b off cap, ps[k]? = some p ∧ vc = .slice (some ⟨b, off, none⟩) N.cs.length cap ∧ k < N.cs.length ∧ N.cs.length ≤ cap ∧ cap ≤ 9223372036854775807 ∧
    w.cell? ⟨b, off + k, none⟩ = some (.pointer (some ⟨p, 0, none⟩)) ∧ b ≠ n ∧ ∃ vi vo vt, CAt c w own k p d vi vo vt := by
  have hk : k < N.cs.length := (List.getElem?_eq_some_iff.1 hd).1
  obtain ⟨p, hp⟩ : ∃ p, ps[k]? = some p := ⟨ps[k]'(by rw [h.len]; exact hk), List.getElem?_eq_getElem _⟩
  obtain ⟨b, off, cap, hv, hle, hlt, hc, -, -⟩ := h.rc.open_ (by omega)
  have hcap : cap ≤ 9223372036854775807 := by
    obtain ⟨A, c', hv', h1, h2, -⟩ := h.rc.form
    rw [hv] at hv'
    injection hv' with _ _ e
    subst e
    simpa [maxLen] using h2
  refine ⟨p, b, off, cap, hp, hv, hk, hle, hcap, hc k _ (by simp [ptrsV, hp]), ?_, h.at_ k p d hp hd⟩
  rintro rfl
  have h1 := h.oc b (by rw [hv]; rfl)
  rw [h.tn] at h1
  omega
theorem nat_nil (k : Int) (w : World) : Calls Try.prog 76 #[.pointer none, .int .i64 k] w fun e w' => e = .returned (.pointer none) ∧ Keeps [] w w' := by
  go_enter Try.func76, Try.ntmps76
  go_wp2
  go_ret
  exact ⟨rfl, Keeps.refl _ _⟩
theorem nat_in (h : NAt pc w n F own ps vc vq N) (k : Nat) (p : Nat) (hp : ps[k]? = some p) :
    Calls Try.prog 76 #[.pointer (some ⟨n, 0, none⟩), .int .i64 k] w fun e w' => e = .returned (.pointer (some ⟨p, 0, none⟩)) ∧ Keeps [] w w' := by
  have hk : k < N.cs.length := by have := (List.getElem?_eq_some_iff.1 hp).1; rw [h.len] at this; exact this
  obtain ⟨p', b, off, cap, hp', rfl, -, hle, hcap, hc, hbn, -⟩ := h.conn (k := k) (List.getElem?_eq_getElem hk)
  rw [hp] at hp'
  injection hp' with hp'
  subst hp'
  have c1 := h.blk.cell 1
  simp [pc] at c1
  have hki : (k : Int) < N.cs.length := by omega
  clear h hp
  go_enter Try.func76, Try.ntmps76
  go_wp2
  go_ret
  exact ⟨rfl, Keeps.refl _ _⟩
theorem nat_out (h : NAt pc w n F own ps vc vq N) (k : Int) (hk : k < 0 ∨ (0 ≤ k ∧ (N.cs.length : Int) ≤ k)) :
    Calls Try.prog 76 #[.pointer (some ⟨n, 0, none⟩), .int .i64 k] w fun e w' => e = .returned (.pointer none) ∧ Keeps [] w w' := by
  have c1 := h.blk.cell 1
  simp [pc] at c1
  obtain ⟨A, cap, rfl, -⟩ := h.rc.form
  clear h
  rcases hk with hk | ⟨h0, hk⟩
  · go_enter Try.func76, Try.ntmps76
    go_wp2
    go_ret
    exact ⟨rfl, Keeps.refl _ _⟩
  · go_enter Try.func76, Try.ntmps76
    go_wp2
    go_ret
    exact ⟨rfl, Keeps.refl _ _⟩
theorem theirs_nil (k : Int) (w : World) : Calls Try.prog 73 #[.pointer none, .int .i64 k] w fun e w' => e = .returned (.tuple #[.pointer none, .int .i64 1]) ∧ Keeps [] w w' := by
  go_enter Try.func73, Try.ntmps73
  go_wp2_with (go_at_call 76; refine (nat_nil _ _).mono ?_; rintro e w1 ⟨rfl, hk⟩)
  go_ret2
  exact ⟨rfl, hk⟩
theorem ours_nil (k : Int) (w : World) : Calls Try.prog 74 #[.pointer none, .int .i64 k] w fun e w' => e = .returned (.tuple #[.pointer none, .int .i64 1]) ∧ Keeps [] w w' := by
  go_enter Try.func74, Try.ntmps74
  go_wp2_with (go_at_call 76; refine (nat_nil _ _).mono ?_; rintro e w1 ⟨rfl, hk⟩)
  go_ret2
  exact ⟨rfl, hk⟩
theorem theirs_out (h : NAt pc w n F own ps vc vq N) (k : Int) (hk : k < 0 ∨ (0 ≤ k ∧ (N.cs.length : Int) ≤ k)) :
    Calls Try.prog 73 #[.pointer (some ⟨n, 0, none⟩), .int .i64 k] w fun e w' => e = .returned (.tuple #[.pointer none, .int .i64 2]) ∧ Keeps [] w w' := by
  have H := hid h
  have HK := hid hk
  clear h hk
  go_enter Try.func73, Try.ntmps73
  go_wp2_with (go_at_call 76; refine (nat_out H.out _ HK.out).mono ?_; rintro e w1 ⟨rfl, hk⟩)
  go_ret2
  exact ⟨rfl, hk⟩
theorem ours_out (h : NAt pc w n F own ps vc vq N) (k : Int) (hk : k < 0 ∨ (0 ≤ k ∧ (N.cs.length : Int) ≤ k)) :
    Calls Try.prog 74 #[.pointer (some ⟨n, 0, none⟩), .int .i64 k] w fun e w' => e = .returned (.tuple #[.pointer none, .int .i64 2]) ∧ Keeps [] w w' := by
  have H := hid h
  have HK := hid hk
  clear h hk
  go_enter Try.func74, Try.ntmps74
  go_wp2_with (go_at_call 76; refine (nat_out H.out _ HK.out).mono ?_; rintro e w1 ⟨rfl, hk⟩)
  go_ret2
  exact ⟨rfl, hk⟩
theorem theirs_in (h : NAt pc w n F own ps vc vq N) (k : Nat) (p : Nat) (d : Cn) (hp : ps[k]? = some p) (hd : N.cs[k]? = some d) :
    Calls Try.prog 73 #[.pointer (some ⟨n, 0, none⟩), .int .i64 k] w fun e w' => e = .returned (.tuple #[ptrIf (theirsD d) p, .int .i64 (theirsD d)]) ∧ Keeps [] w w' := by
  obtain ⟨vi, vo, vt, hc, -⟩ := h.at_ k p d hp hd
  have H := hid h
  have HP := hid hp
  have c0 := hc.cell 0
  have c1 := hc.cell 1
  have c2 := hc.cell 2
  simp [pc] at c0 c1 c2
  obtain ⟨d0, d1, d2, d3, d4, d5, d6, d7, d8, d9, d10, d11, d12⟩ := d
  simp only at c0 c1 c2
  clear h hp hd hc
  obtain ⟨v, hv⟩ : ∃ v, ptrIf (theirsD ⟨d0, d1, d2, d3, d4, d5, d6, d7, d8, d9, d10, d11, d12⟩) p = v := ⟨_, rfl⟩
  obtain ⟨e, he⟩ : ∃ e, theirsD ⟨d0, d1, d2, d3, d4, d5, d6, d7, d8, d9, d10, d11, d12⟩ = e := ⟨_, rfl⟩
  rw [hv, he]
  rw [he] at hv
  cases d0 <;> cases d1 <;> cases d2
  all_goals
    simp [theirsD] at he
    subst he
    simp [ptrIf] at hv
    subst hv
    go_enter Try.func73, Try.ntmps73
    go_wp2_with (go_at_call 76; refine (nat_in H.out k p HP.out).mono ?_; rintro e w1 ⟨rfl, hk⟩; have e0 := cell_keep hk (by simp) c0; have e1 := cell_keep hk (by simp) c1; have e2 := cell_keep hk (by simp) c2)
    go_ret2
    exact ⟨rfl, hk⟩
theorem ours_in (h : NAt pc w n F own ps vc vq N) (k : Nat) (p : Nat) (d : Cn) (hp : ps[k]? = some p) (hd : N.cs[k]? = some d) :
    Calls Try.prog 74 #[.pointer (some ⟨n, 0, none⟩), .int .i64 k] w fun e w' => e = .returned (.tuple #[ptrIf (oursD d) p, .int .i64 (oursD d)]) ∧ Keeps [] w w' := by
  obtain ⟨vi, vo, vt, hc, -⟩ := h.at_ k p d hp hd
  have H := hid h
  have HP := hid hp
  have c0 := hc.cell 0
  have c1 := hc.cell 1
  have c2 := hc.cell 2
  simp [pc] at c0 c1 c2
  obtain ⟨d0, d1, d2, d3, d4, d5, d6, d7, d8, d9, d10, d11, d12⟩ := d
  simp only at c0 c1 c2
  clear h hp hd hc
  obtain ⟨v, hv⟩ : ∃ v, ptrIf (oursD ⟨d0, d1, d2, d3, d4, d5, d6, d7, d8, d9, d10, d11, d12⟩) p = v := ⟨_, rfl⟩
  obtain ⟨e, he⟩ : ∃ e, oursD ⟨d0, d1, d2, d3, d4, d5, d6, d7, d8, d9, d10, d11, d12⟩ = e := ⟨_, rfl⟩
  rw [hv, he]
  rw [he] at hv
  cases d0 <;> cases d1 <;> cases d2
  all_goals
    simp [oursD] at he
    subst he
    simp [ptrIf] at hv
    subst hv
    go_enter Try.func74, Try.ntmps74
    go_wp2_with (go_at_call 76; refine (nat_in H.out k p HP.out).mono ?_; rintro e w1 ⟨rfl, hk⟩; have e0 := cell_keep hk (by simp) c0; have e1 := cell_keep hk (by simp) c1; have e2 := cell_keep hk (by simp) c2)
    go_ret2
    exact ⟨rfl, hk⟩
/-- a number is one of a connection, or of none. -/
theorem NAt.which {c : Cfg} (h : NAt c w n F own ps vc vq N) (k : Int) : (k < 0 ∨ (0 ≤ k ∧ (N.cs.length : Int) ≤ k)) ∨ ∃ (i p : Nat) (d : Cn), k = i ∧ ps[i]? = some p ∧ N.cs[i]? = some d := by
  by_cases h0 : k < 0
  · exact .inl (.inl h0)
  · by_cases h1 : (N.cs.length : Int) ≤ k
    · exact .inl (.inr ⟨by omega, h1⟩)
    · refine .inr ⟨k.toNat, ps[k.toNat]'(by rw [h.len]; omega), N.cs[k.toNat]'(by omega), by omega, List.getElem?_eq_getElem _, List.getElem?_eq_getElem _⟩
end
end Go.Proofs.Ytkeffebcmajhmaa
