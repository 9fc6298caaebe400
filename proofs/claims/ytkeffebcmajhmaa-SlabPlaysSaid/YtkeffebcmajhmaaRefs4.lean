/- The reference's slab: Put by contract. -/
import Derived.Test.YtkeffebcmajhmaaRefs3
namespace Go.Proofs.Ytkeffebcmajhmaa
open Go.RowKit
set_option linter.unusedVariables false
theorem cell_far {w : World} {p q : Addr} {v u : Value} (h : w.cell? p = some v) (hne : p.block ≠ q.block) : (w.setCell q u).cell? p = some v :=
  (World.cell?_of_block (w := w) (Below.heap_setCell w q u p.block hne)).trans h
/-- the blocks of the three rows are apart. -/
theorem RS.apart {w : World} {x : Nat} {F : List Nat} {lim n : Int} {L : List Slot} (h : RS w x F lim L n) {ub uo uc gb go gc vb vo vc : Nat} (hU : w.cell? ⟨x, 1, none⟩ = some (.slice (some ⟨ub, uo, none⟩) L.length uc)) (hG : w.cell? ⟨x, 2, none⟩ = some (.slice (some ⟨gb, go, none⟩) L.length gc)) (hV : w.cell? ⟨x, 3, none⟩ = some (.slice (some ⟨vb, vo, none⟩) L.length vc)) :
    ub ≠ gb ∧ ub ≠ vb ∧ gb ≠ vb ∧ ub ≠ x ∧ gb ≠ x ∧ vb ≠ x ∧ ub ∈ F ∧ gb ∈ F ∧ vb ∈ F ∧ L.length ≤ uc ∧ L.length ≤ gc ∧ L.length ≤ vc := by
  obtain ⟨vu, vg, vv, h1, h2, h3, h4, h5, h6, h7, h8, h9, h10⟩ := h
  have e1 := h1.cell 1
  have e2 := h1.cell 2
  have e3 := h1.cell 3
  rw [hU] at e1
  rw [hG] at e2
  rw [hV] at e3
  simp at e1 e2 e3
  subst e1 e2 e3
  obtain ⟨_, _, a1, a2, -⟩ := h2.form
  obtain ⟨_, _, b1, b2, -⟩ := h3.form
  obtain ⟨_, _, c1, c2, -⟩ := h4.form
  injection a1 with _ _ a1
  injection b1 with _ _ b1
  injection c1 with _ _ c1
  subst a1 b1 c1
  refine ⟨fun e => ?_, fun e => ?_, fun e => ?_, fun e => ?_, fun e => ?_, fun e => ?_, h7 _ rfl, h8 _ rfl, h9 _ rfl, a2, b2, c2⟩
  · exact h2.disj h3 (by decide) ub rfl (by simp [Value.ownBlock, e])
  · exact h2.disj h4 (by decide) ub rfl (by simp [Value.ownBlock, e])
  · exact h10 gb rfl (by simp [Value.ownBlock, e])
  · exact h2.blk_ne h1 (by decide) ub rfl e
  · exact h3.blk_ne h1 (by decide) gb rfl e
  · exact h4.blk_ne h1 (by decide) vb rfl e
theorem RS.puts {w : World} {x : Nat} {F : List Nat} {lim n : Int} {L : List Slot} (h : RS w x F lim L n) {ub uo uc gb go gc vb vo vc j : Nat} {d : Slot} (hU : w.cell? ⟨x, 1, none⟩ = some (.slice (some ⟨ub, uo, none⟩) L.length uc)) (hG : w.cell? ⟨x, 2, none⟩ = some (.slice (some ⟨gb, go, none⟩) L.length gc)) (hV : w.cell? ⟨x, 3, none⟩ = some (.slice (some ⟨vb, vo, none⟩) L.length vc))
    (hd : L[j]? = some d) (v : Int) : RS ((((w.setCell ⟨ub, uo + j, none⟩ (.bool true)).setCell ⟨gb, go + j, none⟩ (.int .i64 (d.1 + 1))).setCell ⟨vb, vo + j, none⟩ (.int .i64 v)).setCell ⟨x, 4, none⟩ (.int .i64 (n + 1))) x F lim (L.set j (d.1 + 1, true, v)) (n + 1) := by
  obtain ⟨-, -, -, hux, hgx, hvx, -⟩ := h.apart hU hG hV
  have hjl : j < L.length := (List.getElem?_eq_some_iff.1 hd).1
  obtain ⟨-, -, -, s1⟩ := h.setUsed hU hd
  have r1 := s1 true
  have hd1 : (L.set j (d.1, true, d.2.2))[j]? = some (d.1, true, d.2.2) := by simp [hjl]
  have hG1 := cell_far (q := ⟨ub, uo + j, none⟩) (u := .bool true) hG (Ne.symm hux)
  have hV1 := cell_far (q := ⟨ub, uo + j, none⟩) (u := .bool true) hV (Ne.symm hux)
  obtain ⟨-, -, -, s2⟩ := r1.setGen (gb := gb) (go := go) (gc := gc) (by simpa using hG1) hd1
  have r2 := s2 (d.1 + 1)
  have hd2 : ((L.set j (d.1, true, d.2.2)).set j (d.1 + 1, true, d.2.2))[j]? = some (d.1 + 1, true, d.2.2) := by simp [hjl]
  have hV2 := cell_far (q := ⟨gb, go + j, none⟩) (u := .int .i64 (d.1 + 1)) hV1 (Ne.symm hgx)
  obtain ⟨-, -, -, s3⟩ := r2.setVal (vb := vb) (vo := vo) (vc := vc) (by simpa using hV2) hd2
  have r3 := (s3 v).setN (n + 1)
  rw [List.set_set, List.set_set] at r3
  exact r3
theorem rsput_full (x : Nat) (F : List Nat) (lim : Int) (L : List Slot) (v n : Int) (w : World) (h : RS w x F lim L n) (hn : lim ≤ n) :
    Calls Try.prog 26 #[.pointer (some ⟨x, 0, none⟩), .int .i64 v] w fun e w' => e = .returned (.tuple #[.agg #[.int .i64 0, .int .i64 0], .int .i64 3]) ∧ Keeps [] w w' := by
  obtain ⟨c4, c0, -⟩ := h.cN
  have n0 := fun o => alloc_cell c0 o
  have n4 := fun o => alloc_cell c4 o
  clear h c4 c0
  go_enter Try.func26, Try.ntmps26
  go_wp2_with fail
  go_quiet (fail)
  go_wp2
  exact bodyPost_ret (v := .tuple #[.agg #[.int .i64 0, .int .i64 0], .int .i64 3]) (by simp [results, Try.results26, go_sem]) rfl ⟨rfl, by (repeat (first | exact Keeps.refl _ _ | exact .inr (Nat.le_refl _) | apply Keeps.drewN | apply Keeps.alloc | apply Keeps.setCell))⟩
def RPut (w : World) (s : Nat) (F : List Nat) (lim n v : Int) (L : List Slot) (e : Ending) (w' : World) : Prop :=
  e = .returned (.tuple #[.agg #[.int .i64 (freeAt L : Nat), .int .i64 (putG L)], .int .i64 0]) ∧ (∃ F', RS w' s F' lim (putL L v) (n + 1) ∧ Later F w F') ∧ Keeps F w w'
theorem rput_done {w : World} {x ub uo uc gb go gc vb vo vc j m : Nat} {F : List Nat} {lim n : Int} {L : List Slot} {d : Slot} {o : Obj} (h : RS w x F lim L n) (hx : x ∈ F) (hu : ub ∈ F) (hg : gb ∈ F) (hvb : vb ∈ F) (hd : L[j]? = some d)
    (hU : (w.alloc o).cell? ⟨x, 1, none⟩ = some (.slice (some ⟨ub, uo, none⟩) L.length uc)) (hG : (w.alloc o).cell? ⟨x, 2, none⟩ = some (.slice (some ⟨gb, go, none⟩) L.length gc)) (hV : (w.alloc o).cell? ⟨x, 3, none⟩ = some (.slice (some ⟨vb, vo, none⟩) L.length vc)) (v : Int) {y z : Value} :
    (∃ F', RS ((((((((w.alloc o).drewN m).setCell ⟨ub, uo + j, none⟩ (.bool true)).setCell ⟨gb, go + j, none⟩ (.int .i64 (d.1 + 1))).setCell ⟨vb, vo + j, none⟩ (.int .i64 v)).setCell ⟨x, 4, none⟩ (.int .i64 (n + 1))).setCell ⟨w.heap.size, 0, none⟩ y).setCell ⟨w.heap.size, 1, none⟩ z) x F' lim (L.set j (d.1 + 1, true, v)) (n + 1) ∧ Later F w F') ∧
      Keeps F w ((((((((w.alloc o).drewN m).setCell ⟨ub, uo + j, none⟩ (.bool true)).setCell ⟨gb, go + j, none⟩ (.int .i64 (d.1 + 1))).setCell ⟨vb, vo + j, none⟩ (.int .i64 v)).setCell ⟨x, 4, none⟩ (.int .i64 (n + 1))).setCell ⟨w.heap.size, 0, none⟩ y).setCell ⟨w.heap.size, 1, none⟩ z) := by
  have h0 : RS ((w.alloc o).drewN m) x F lim L n := h.keeps (((Keeps.refl [] w).alloc o).drewN m) (by simp)
  have h1 := h0.puts hU hG hV hd v
  have hw : ∀ k ∈ F, k ∉ [w.heap.size] := fun k hk hx => by
    have := h.flt k hk
    simp at hx
    omega
  refine ⟨⟨F, h1.keeps (((Keeps.refl [w.heap.size] _).setCell (p := ⟨w.heap.size, 0, none⟩) (.inl (by simp)) y).setCell (p := ⟨w.heap.size, 1, none⟩) (.inl (by simp)) z) hw, Later.refl _ _⟩, ?_⟩
  exact ((((((((Keeps.refl F w).alloc o).drewN m).setCell (.inl hu) _).setCell (.inl hg) _).setCell (.inl hvb) _).setCell (.inl hx) _).setCell (.inr (Nat.le_refl _)) _).setCell (.inr (Nat.le_refl _)) _
set_option maxRecDepth 100000 in
set_option maxHeartbeats 1000000 in
theorem rsput_old (x : Nat) (F : List Nat) (lim n : Int) (L : List Slot) (d : Slot) (v : Int) (w : World) (h : RS w x F lim L n) (hn : n < lim) (hL : L.length ≤ 1099511627776) (hd : L[freeAt L]? = some d) (hg0 : 0 ≤ d.1) (hg1 : d.1 ≤ 1099511627776) (hn0 : -1099511627776 ≤ n) (hn1 : n ≤ 1099511627776) :
    Calls Try.prog 26 #[.pointer (some ⟨x, 0, none⟩), .int .i64 v] w (RPut w x F lim n v L) := by
  obtain ⟨c4, c0, hfx, hxF, hxl⟩ := h.cN
  have H := hid h
  obtain ⟨UA, uc, GA, gc, VA, vc, h1, h2, h3, hc⟩ := h.opened
  obtain ⟨k, hk⟩ : ∃ k, freeAt L = k := ⟨_, rfl⟩
  have hkl : k < L.length := by rw [← hk]; exact (List.getElem?_eq_some_iff.1 hd).1
  obtain ⟨ub, uo, gb, go, vb, vo, rfl, rfl, rfl, hcc⟩ := hc (by omega)
  obtain ⟨hug, huv, hgv, hux, hgx, hvx, huF, hgF, hvF, -⟩ := h.apart h1 h2 h3
  have HU : Hid (∀ j, j < k → w.cell? ⟨ub, uo + j, none⟩ = some (.bool true)) := by
    refine hid fun j hj => ?_
    have h3 := (hcc j (L[j]'(by omega)) (List.getElem?_eq_getElem (by omega))).1
    rw [freeAt_used (by omega) (List.getElem?_eq_getElem (by omega))] at h3
    exact h3
  rw [hk] at hd
  obtain ⟨g0, g1, g2⟩ := hcc k d hd
  rw [freeAt_free (by rw [hk]; exact hd)] at g0
  obtain ⟨-, -, fu, -⟩ := h.setUsed h1 hd
  obtain ⟨-, -, fg, -⟩ := h.setGen h2 hd
  obtain ⟨-, -, fv, -⟩ := h.setVal h3 hd
  have n0 := fun o => alloc_cell c0 o
  have n1 := fun o => alloc_cell h1 o
  have n2 := fun o => alloc_cell h2 o
  have n3 := fun o => alloc_cell h3 o
  have n4 := fun o => alloc_cell c4 o
  have n5 := fun o => alloc_cell g0 o
  have n6 := fun o => alloc_cell g1 o
  have n7 := fun o => alloc_cell g2 o
  have HD := hid hd
  have HK := hid hk
  have hul : ub < w.heap.size := h.flt ub huF
  have hgl : gb < w.heap.size := h.flt gb hgF
  have hvl : vb < w.heap.size := h.flt vb hvF
  have hki : (k : Int) < L.length := by omega
  clear h hc hcc c0 c4 h1 h2 h3 g0 g1 g2 hd hk
  unfold RPut putL putG
  rw [HK.out, HD.out]
  simp only
  have hw1 : IntKind.i64.wrap (d.1 + 1) = d.1 + 1 := IntWalk.i64_in _ (by omega)
  go_enter Try.func26, Try.ntmps26
  go_wp2_with fail
  go_quiet (fail)
  go_wp2_with fail
  go_loop [6] (fun i => ∃ j : Nat, j ≤ k ∧ i = .int .i64 j) (fun i => L.length - (intOf i).toNat)
  case atStart => exact ⟨0, Nat.zero_le _, rfl⟩
  case round =>
    obtain ⟨j, hj, rfl⟩ := hrel
    by_cases hlt : j < k
    · have hcj := fun o => alloc_cell (HU.out j hlt) o
      have hji : (j : Int) < L.length := by omega
      go_wp2_with fail
      go_round
      case rel => exact ⟨j + 1, by omega, by go_num⟩
      case measure => simp [intOf] <;> omega
    · have hji : j = k := by omega
      subst hji
      have hjn : ((j : Int) == L.length) = false := by simp; omega
      go_wp2_with fail
      refine bodyPost_ret (v := .tuple #[.agg #[.int .i64 j, .int .i64 (d.1 + 1)], .int .i64 0]) (by simp [results, Try.results26, go_sem]) rfl ⟨rfl, ?_⟩
      exact rput_done H.out hxF huF hgF hvF HD.out (n1 _) (n2 _) (n3 _) v
end Go.Proofs.Ytkeffebcmajhmaa
