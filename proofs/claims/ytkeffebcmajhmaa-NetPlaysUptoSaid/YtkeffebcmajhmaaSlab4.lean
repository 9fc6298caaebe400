/- The slab: Put by contract. -/
import Derived.Test.YtkeffebcmajhmaaSlab3
namespace Go.Proofs.Ytkeffebcmajhmaa
open Go.RowKit
set_option linter.unusedVariables false
theorem sput_nil (v : Int) (w : World) : Calls Try.prog 20 #[.pointer none, .int .i64 v] w fun e w' => e = .returned (.tuple #[.agg #[.int .i64 0, .int .i64 0], .int .i64 1]) ∧ Keeps [] w w' := by
  go_enter Try.func20, Try.ntmps20
  go_wp2
  exact bodyPost_ret (v := .tuple #[.agg #[.int .i64 0, .int .i64 0], .int .i64 1]) (by simp [results, Try.results20, go_sem]) rfl ⟨rfl, ((Keeps.refl [] w).alloc _)⟩
theorem sput_full (s : Nat) (F : List Nat) (lim : Int) (L : List Slot) (v : Int) (w : World) (h : SRep w s F lim L lim) :
    Calls Try.prog 20 #[.pointer (some ⟨s, 0, none⟩), .int .i64 v] w fun e w' => e = .returned (.tuple #[.agg #[.int .i64 0, .int .i64 0], .int .i64 3]) ∧ Keeps [] w w' := by
  obtain ⟨c2, c0, -⟩ := h.cN
  have n0 := fun o => alloc_cell c0 o
  have n2 := fun o => alloc_cell c2 o
  clear h c2 c0
  go_enter Try.func20, Try.ntmps20
  go_wp2_with fail
  go_quiet (fail)
  go_wp2
  exact bodyPost_ret (v := .tuple #[.agg #[.int .i64 0, .int .i64 0], .int .i64 3]) (by simp [results, Try.results20, go_sem]) rfl ⟨rfl, by (repeat (first | exact Keeps.refl _ _ | exact .inr (Nat.le_refl _) | apply Keeps.drewN | apply Keeps.alloc | apply Keeps.setCell))⟩
/-- the least slot that is free. -/
def freeAt (L : List Slot) : Nat := L.findIdx fun d => !d.2.1
theorem freeAt_le (L : List Slot) : freeAt L ≤ L.length := List.findIdx_le_length
theorem freeAt_used {L : List Slot} {j : Nat} {d : Slot} (h : j < freeAt L) (hd : L[j]? = some d) : d.2.1 = true := by
  have h1 := List.not_of_lt_findIdx (p := fun d : Slot => !d.2.1) (xs := L) (i := j) h
  have h2 := (List.getElem?_eq_some_iff.1 hd)
  obtain ⟨h3, h4⟩ := h2
  rw [h4] at h1
  simpa using h1
theorem freeAt_free {L : List Slot} {d : Slot} (hd : L[freeAt L]? = some d) : d.2.1 = false := by
  obtain ⟨h3, h4⟩ := List.getElem?_eq_some_iff.1 hd
  have h1 := List.findIdx_getElem (p := fun d : Slot => !d.2.1) (xs := L) (w := h3)
  have h5 : L[freeAt L] = d := h4
  unfold freeAt at h5
  rw [h5] at h1
  simpa using h1
/-- what Put makes of the slots, and the Handle's count. -/
def putL (L : List Slot) (v : Int) : List Slot := match L[freeAt L]? with
  | some d => L.set (freeAt L) (d.1 + 1, true, v)
  | none => L ++ [(1, true, v)]
def putG (L : List Slot) : Int := match L[freeAt L]? with
  | some d => d.1 + 1
  | none => 1
def Put (w : World) (s : Nat) (F : List Nat) (lim n v : Int) (L : List Slot) (e : Ending) (w' : World) : Prop :=
  e = .returned (.tuple #[.agg #[.int .i64 (freeAt L : Nat), .int .i64 (putG L)], .int .i64 0]) ∧ (∃ F', SRep w' s F' lim (putL L v) (n + 1) ∧ Later F w F') ∧ Keeps F w w'
/-- what the stores of Put leave, the slot being there. -/
theorem put_done {w : World} {s b off cap j m : Nat} {F : List Nat} {lim n : Int} {L : List Slot} {d : Slot} {o : Obj} (h : SRep w s F lim L n) (hs : s ∈ F) (hb : b ∈ F) (hd : L[j]? = some d)
    (hv : (w.alloc o).cell? ⟨s, 1, none⟩ = some (.slice (some ⟨b, off, none⟩) L.length cap)) (v : Int) {x y : Value} :
    (∃ F', SRep (((((((( w.alloc o).drewN m).setCell ⟨b, off + j * 3, none⟩ (.int .i64 (d.1 + 1))).setCell ⟨b, off + j * 3 + 1, none⟩ (.bool true)).setCell ⟨b, off + j * 3 + 2, none⟩ (.int .i64 v)).setCell ⟨s, 2, none⟩ (.int .i64 (n + 1))).setCell ⟨w.heap.size, 0, none⟩ x).setCell ⟨w.heap.size, 1, none⟩ y) s F' lim (L.set j (d.1 + 1, true, v)) (n + 1) ∧ Later F w F') ∧
      Keeps F w (((((((( w.alloc o).drewN m).setCell ⟨b, off + j * 3, none⟩ (.int .i64 (d.1 + 1))).setCell ⟨b, off + j * 3 + 1, none⟩ (.bool true)).setCell ⟨b, off + j * 3 + 2, none⟩ (.int .i64 v)).setCell ⟨s, 2, none⟩ (.int .i64 (n + 1))).setCell ⟨w.heap.size, 0, none⟩ x).setCell ⟨w.heap.size, 1, none⟩ y) := by
  have h0 : SRep ((w.alloc o).drewN m) s F lim L n := h.keeps (((Keeps.refl [] w).alloc o).drewN m) (by simp)
  obtain ⟨-, -, -, -, -, hst⟩ := h0.stores hv hd
  have h1 := (hst (d.1 + 1, true, v)).setN (n + 1)
  have hw : ∀ k ∈ F, k ∉ [w.heap.size] := fun k hk hx => by
    have := h.flt k hk
    simp at hx
    omega
  refine ⟨⟨F, h1.keeps (((Keeps.refl [w.heap.size] _).setCell (p := ⟨w.heap.size, 0, none⟩) (.inl (by simp)) x).setCell (p := ⟨w.heap.size, 1, none⟩) (.inl (by simp)) y) hw, Later.refl _ _⟩, ?_⟩
  exact ((((((((Keeps.refl F w).alloc o).drewN m).setCell (.inl hb) _).setCell (.inl hb) _).setCell (.inl hb) _).setCell (.inl hs) _).setCell (.inr (Nat.le_refl _)) _).setCell (.inr (Nat.le_refl _)) _
set_option maxRecDepth 100000 in
set_option maxHeartbeats 1000000 in
theorem sput_old (s : Nat) (F : List Nat) (lim n : Int) (L : List Slot) (d : Slot) (v : Int) (w : World) (h : SRep w s F lim L n) (hn : (n == lim) = false) (hd : L[freeAt L]? = some d) (hg0 : 0 ≤ d.1) (hg1 : d.1 ≤ 1099511627776) (hn0 : -1099511627776 ≤ n) (hn1 : n ≤ 1099511627776) :
    Calls Try.prog 20 #[.pointer (some ⟨s, 0, none⟩), .int .i64 v] w (Put w s F lim n v L) := by
  obtain ⟨c2, c0, hfs, hsF, hsl⟩ := h.cN
  have H := hid h
  obtain ⟨A, cap, hv, h1, h2, hc⟩ := h.opened
  obtain ⟨k, hk⟩ : ∃ k, freeAt L = k := ⟨_, rfl⟩
  have hkl : k < L.length := by rw [← hk]; exact (List.getElem?_eq_some_iff.1 hd).1
  obtain ⟨b, off, rfl, hcc⟩ := hc (by omega)
  have HU : Hid (∀ j, j < k → w.cell? ⟨b, off + j * 3 + 1, none⟩ = some (.bool true)) := by
    refine hid fun j hj => ?_
    have h3 := (hcc j (L[j]'(by omega)) (List.getElem?_eq_getElem (by omega))).2.1
    rw [freeAt_used (by omega) (List.getElem?_eq_getElem (by omega))] at h3
    exact h3
  rw [hk] at hd
  obtain ⟨g0, g1, g2⟩ := hcc k d hd
  rw [freeAt_free (by rw [hk]; exact hd)] at g1
  have n0 := fun o => alloc_cell c0 o
  have n1 := fun o => alloc_cell hv o
  have n2 := fun o => alloc_cell c2 o
  have n3 := fun o => alloc_cell g0 o
  have n4 := fun o => alloc_cell g1 o
  have n5 := fun o => alloc_cell g2 o
  have HD := hid hd
  have HK := hid hk
  obtain ⟨hbF, hbs, hfz, -, -, hst⟩ := h.stores hv hd
  have hbl : b < w.heap.size := h.flt b hbF
  clear h hc hcc c0 c2 hv g0 g1 g2 hd hk hst
  unfold Put putL putG
  rw [HK.out, HD.out]
  simp only
  have hw1 : IntKind.i64.wrap (d.1 + 1) = d.1 + 1 := IntWalk.i64_in _ (by omega)
  go_enter Try.func20, Try.ntmps20
  go_wp2_with fail
  go_quiet (fail)
  go_wp2_with fail
  go_loop [6] (fun i => ∃ j : Nat, j ≤ k ∧ i = .int .i64 j) (fun i => L.length - (intOf i).toNat)
  case atStart => exact ⟨0, Nat.zero_le _, rfl⟩
  case round =>
    obtain ⟨j, hj, rfl⟩ := hrel
    by_cases hlt : j < k
    · have hcj := fun o => alloc_cell (HU.out j hlt) o
      have hji : (j : Int) < L.length := by omega
      go_wp2_with fail
      go_round
      case rel => exact ⟨j + 1, by omega, by go_num⟩
      case measure => simp [intOf] <;> omega
    · have hji : j = k := by omega
      subst hji
      have hji : (j : Int) < L.length := by omega
      have hjn : ((j : Int) == L.length) = false := by simp; omega
      go_wp2_with fail
      go_region_law (fail)
      all_goals
        go_wp2_with fail
        refine bodyPost_ret (v := .tuple #[.agg #[.int .i64 j, .int .i64 (d.1 + 1)], .int .i64 0]) (by simp [results, Try.results20, go_sem]) rfl ⟨rfl, ?_⟩
        exact put_done H.out hsF hbF HD.out (n1 _) v
end Go.Proofs.Ytkeffebcmajhmaa
