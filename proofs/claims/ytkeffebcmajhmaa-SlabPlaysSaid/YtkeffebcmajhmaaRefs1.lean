/- The reference's slab: what it is in memory; New, Is, Get, Set by contract. -/
import Derived.Test.YtkeffebcmajhmaaSlab8
namespace Go.Proofs.Ytkeffebcmajhmaa
open Go.RowKit
set_option linter.unusedVariables false
def usedV (L : List Slot) : List Value := L.map fun d => .bool d.2.1
def genV (L : List Slot) : List Value := L.map fun d => .int .i64 d.1
def valV (L : List Slot) : List Value := L.map fun d => .int .i64 d.2.2
theorem int_info : (Try.prog.info? 3).map (fun i => (i.zero, i.size, i.bytes)) = some (some (.int .i64 0), 1, 8) := by kernel_rfl
theorem bool_info : (Try.prog.info? 4).map (fun i => (i.zero, i.size, i.bytes)) = some (some (.bool false), 1, 1) := by kernel_rfl
def RS (w : World) (x : Nat) (F : List Nat) (lim : Int) (L : List Slot) (n : Int) : Prop :=
  ∃ vu vg vv, Blk w x 53 #[.int .i64 lim, vu, vg, vv, .int .i64 n] ∧ Row w 4 1 vu L.length (usedV L) ∧ Row w 3 1 vg L.length (genV L) ∧ Row w 3 1 vv L.length (valV L) ∧
    (∀ k ∈ F, k < w.heap.size) ∧ x ∈ F ∧ (∀ k, vu.ownBlock = some k → k ∈ F) ∧ (∀ k, vg.ownBlock = some k → k ∈ F) ∧ (∀ k, vv.ownBlock = some k → k ∈ F) ∧ (∀ k, vg.ownBlock = some k → vv.ownBlock ≠ some k)
section
variable {w w' : World} {x : Nat} {F : List Nat} {lim n : Int} {L : List Slot}
theorem RS.keeps {K : List Nat} (h : RS w x F lim L n) (hk : Keeps K w w') (hd : ∀ k ∈ F, k ∉ K) : RS w' x F lim L n := by
  obtain ⟨vu, vg, vv, h1, h2, h3, h4, h5, h6, h7, h8, h9, h10⟩ := h
  exact ⟨vu, vg, vv, h1.keeps hk (hd _ h6), h2.keeps hk (fun k e => hd _ (h7 k e)), h3.keeps hk (fun k e => hd _ (h8 k e)), h4.keeps hk (fun k e => hd _ (h9 k e)), fun k e => Nat.lt_of_lt_of_le (h5 k e) hk.size, h6, h7, h8, h9, h10⟩
theorem RS.flt (h : RS w x F lim L n) : ∀ k ∈ F, k < w.heap.size := by
  obtain ⟨_, _, _, _, _, _, _, h5, _⟩ := h
  exact h5
end
theorem rsnew_bad (n : Int) (w : World) (h : n < 1 ∨ (1 ≤ n ∧ 4096 < n)) :
    Calls Try.prog 25 #[.int .i64 n] w fun e w' => e = .returned (.tuple #[.pointer none, .int .i64 1]) ∧ w = w' := by
  rcases h with h | ⟨h0, h⟩
  all_goals
    go_enter Try.func25, Try.ntmps25
    go_wp2
    go_ret2
    exact ⟨rfl, rfl⟩
theorem rsnew_ok (n : Int) (w : World) (h1 : 1 ≤ n) (h2 : n ≤ 4096) :
    Calls Try.prog 25 #[.int .i64 n] w fun e w' => e = .returned (.tuple #[.pointer (some ⟨w.heap.size, 0, none⟩), .int .i64 0]) ∧ RS w' w.heap.size [w.heap.size] n [] 0 ∧ Keeps [] w w' := by
  have h1' : ¬ n < 1 := by omega
  have h2' : ¬ 4096 < n := by omega
  go_enter Try.func25, Try.ntmps25
  go_wp2
  go_ret2
  exact ⟨rfl, ⟨.slice none 0 0, .slice none 0 0, .slice none 0 0, Blk.new _ _ _, Row.nil _ _ _, Row.nil _ _ _, Row.nil _ _ _, by simp, by simp, by simp [Value.ownBlock], by simp [Value.ownBlock], by simp [Value.ownBlock], by simp [Value.ownBlock]⟩, (Keeps.refl [] w).alloc _⟩
/-- where the three rows lie. -/
theorem RS.opened {w : World} {x : Nat} {F : List Nat} {lim n : Int} {L : List Slot} (h : RS w x F lim L n) : ∃ UA uc GA gc VA vc, w.cell? ⟨x, 1, none⟩ = some (.slice UA L.length uc) ∧ w.cell? ⟨x, 2, none⟩ = some (.slice GA L.length gc) ∧ w.cell? ⟨x, 3, none⟩ = some (.slice VA L.length vc) ∧
    (0 < L.length → ∃ ub uo gb go vb vo, UA = some ⟨ub, uo, none⟩ ∧ GA = some ⟨gb, go, none⟩ ∧ VA = some ⟨vb, vo, none⟩ ∧
      ∀ k d, L[k]? = some d → w.cell? ⟨ub, uo + k, none⟩ = some (.bool d.2.1) ∧ w.cell? ⟨gb, go + k, none⟩ = some (.int .i64 d.1) ∧ w.cell? ⟨vb, vo + k, none⟩ = some (.int .i64 d.2.2)) := by
  obtain ⟨vu, vg, vv, h1, h2, h3, h4, -⟩ := h
  obtain ⟨UA, uc, rfl, -⟩ := h2.form
  obtain ⟨GA, gc, rfl, -⟩ := h3.form
  obtain ⟨VA, vc, rfl, -⟩ := h4.form
  refine ⟨UA, uc, GA, gc, VA, vc, by simpa using h1.cell 1, by simpa using h1.cell 2, by simpa using h1.cell 3, fun hp => ?_⟩
  obtain ⟨ub, uo, hu, -, hcu⟩ := (h2.cellsIn (F := []) (by simp)).at_ (by simp [usedV]; omega)
  obtain ⟨gb, go, hg, -, hcg⟩ := (h3.cellsIn (F := []) (by simp)).at_ (by simp [genV]; omega)
  obtain ⟨vb, vo, hv, -, hcv⟩ := (h4.cellsIn (F := []) (by simp)).at_ (by simp [valV]; omega)
  exact ⟨ub, uo, gb, go, vb, vo, hu, hg, hv, fun k d hd => ⟨hcu k _ (by simp [usedV, hd]), hcg k _ (by simp [genV, hd]), hcv k _ (by simp [valV, hd])⟩⟩
set_option maxHeartbeats 1000000 in
theorem ris_live (x : Nat) (F : List Nat) (lim n : Int) (L : List Slot) (k : Nat) (g v : Int) (w : World) (h : RS w x F lim L n) (hd : L[k]? = some (g, true, v)) :
    Calls Try.prog 72 #[.pointer (some ⟨x, 0, none⟩), .agg #[.int .i64 k, .int .i64 g]] w fun e w' => e = .returned (.bool true) ∧ Keeps [] w w' := by
  obtain ⟨UA, uc, GA, gc, VA, vc, h1, h2, h3, hc⟩ := h.opened
  have hk : k < L.length := (List.getElem?_eq_some_iff.1 hd).1
  obtain ⟨ub, uo, gb, go, vb, vo, rfl, rfl, rfl, hcc⟩ := hc (by omega)
  obtain ⟨c1, c2, -⟩ := hcc k _ hd
  have n1 := fun o => alloc_cell h1 o
  have n2 := fun o => alloc_cell h2 o
  have n3 := fun o => alloc_cell c1 o
  have n4 := fun o => alloc_cell c2 o
  have hki : (k : Int) < L.length := by omega
  have hd0 : decide ((0 : Int) ≤ (k : Int)) = true := by simp
  have hd1 : decide ((k : Int) < L.length) = true := by simpa using hki
  clear h h1 h2 h3 hc hcc c1 c2 hd
  simp only at n3 n4
  go_enter Try.func72, Try.ntmps72
  go_wp2_with fail
  go_quiet (fail)
  go_wp2
  go_ret
  exact ⟨rfl, by (repeat (first | exact Keeps.refl _ _ | apply Keeps.drewN | apply Keeps.alloc))⟩
set_option maxHeartbeats 2000000 in
theorem ris_dead (x : Nat) (F : List Nat) (lim n : Int) (L : List Slot) (i g : Int) (w : World) (h : RS w x F lim L n) (hl : live L i g = none) :
    Calls Try.prog 72 #[.pointer (some ⟨x, 0, none⟩), .agg #[.int .i64 i, .int .i64 g]] w fun e w' => e = .returned (.bool false) ∧ Keeps [] w w' := by
  obtain ⟨UA, uc, GA, gc, VA, vc, h1, h2, h3, hc⟩ := h.opened
  have n1 := fun o => alloc_cell h1 o
  have n2 := fun o => alloc_cell h2 o
  rcases live_none hl with h0 | ⟨h0, h4⟩ | ⟨k, g', u, v, rfl, hd, hm⟩
  · have hd0 : decide ((0 : Int) ≤ i) = false := by simp; omega
    clear h h1 h2 h3 hc hl
    go_enter Try.func72, Try.ntmps72
    go_wp2_with fail
    go_quiet (fail)
    go_wp2
    go_ret
    exact ⟨rfl, by (repeat (first | exact Keeps.refl _ _ | apply Keeps.drewN | apply Keeps.alloc))⟩
  · have hd0 : decide ((0 : Int) ≤ i) = true := by simp; omega
    have hd1 : decide (i < (L.length : Int)) = false := by simp; omega
    clear h h1 h2 h3 hc hl
    go_enter Try.func72, Try.ntmps72
    go_wp2_with fail
    go_quiet (fail)
    go_wp2
    go_ret
    exact ⟨rfl, by (repeat (first | exact Keeps.refl _ _ | apply Keeps.drewN | apply Keeps.alloc))⟩
  · have hk : k < L.length := (List.getElem?_eq_some_iff.1 hd).1
    obtain ⟨ub, uo, gb, go, vb, vo, rfl, rfl, rfl, hcc⟩ := hc (by omega)
    obtain ⟨c1, c2, -⟩ := hcc k _ hd
    have hki : (k : Int) < L.length := by omega
    have hd0 : decide ((0 : Int) ≤ (k : Int)) = true := by simp
    have hd1 : decide ((k : Int) < L.length) = true := by simpa using hki
    simp only at c1 c2
    rcases hm with rfl | ⟨rfl, hne⟩
    all_goals
      have n3 := fun o => alloc_cell c1 o
      have n4 := fun o => alloc_cell c2 o
      try have hde : (g' == g) = false := by simpa using hne
      clear h h1 h2 h3 hc hcc c1 c2 hd hl
      go_enter Try.func72, Try.ntmps72
      go_wp2_with fail
      go_quiet (fail)
      go_wp2
      go_ret
      exact ⟨rfl, by (repeat (first | exact Keeps.refl _ _ | apply Keeps.drewN | apply Keeps.alloc))⟩
end Go.Proofs.Ytkeffebcmajhmaa
