/- PollEdges in plain words. -/
import Derived.Test.YtkeffebcmajhmaaPoll15
namespace Go.Proofs.Ytkeffebcmajhmaa
open Go.RowKit
set_option linter.unusedVariables false
set_option linter.unusedSimpArgs false
theorem eN_send (inn : List Int) (r : Int) (t : List Int) (h : inn.length < 1024) : sendN (eN inn r t) 0 [[1]] = (eN (inn ++ [1]) (r + 1) t, 1, 0) := by
  unfold sendN
  have hc : (eN inn r t).cs[0]? = some ⟨false, true, false, 1, false, false, true, inn, 0, r, 0, [], t⟩ := rfl
  have h0 := onConn_some hc (sendD [[1]]) (0, 2)
  rw [show ((0 : Nat) : Int) = 0 from rfl] at h0
  rw [h0]
  have h1 : (inn ++ [1]).take 1024 = inn ++ [1] := List.take_of_length_le (by simp; omega)
  simp only [sendD, theirsD, NS.upd, eN, List.flatten_cons, List.flatten_nil, List.append_nil, h1]
  simp
theorem eN_read (inn : List Int) (r : Int) (t : List Int) (h : inn.length ≤ 1024) : ∃ x, readN (eN inn r t) 0 2000 = (eN [] r (t ++ inn), x) := by
  unfold readN
  rw [if_neg (by omega)]
  have hc : (eN inn r t).cs[0]? = some ⟨false, true, false, 1, false, false, true, inn, 0, r, 0, [], t⟩ := rfl
  have h0 := onConn_some hc (readD (2000 : Int).toNat) ([], 2)
  rw [show ((0 : Nat) : Int) = 0 from rfl] at h0
  rw [h0]
  unfold readD
  rw [if_pos (by rfl)]
  by_cases hi : inn = []
  · subst hi
    exact ⟨([], 4), by simp [eN, NS.upd]⟩
  · have h1 : inn.take (2000 : Int).toNat = inn := List.take_of_length_le (Nat.le_trans h (by decide))
    have h2 : inn.drop (2000 : Int).toNat = [] := List.drop_eq_nil_of_le (Nat.le_trans h (by decide))
    rw [if_neg (by simp [hi])]
    refine ⟨(inn, 0), ?_⟩
    simp only [h1, h2]
    rfl
def edD (edge : Bool) (tr : Int) : Wd := ⟨0, true, false, edge, tr, 0⟩
def edE : Ev := ((0, 1), 0, true, false)
def edL : List Slot := [(1, true, 0)]
/-- is it told? -/
def edT (edge : Bool) (inn : List Int) (r tr : Int) : Bool := decide (0 < inn.length) && (!edge || decide (tr < r))
theorem eN_ready (inn : List Int) (r : Int) (t : List Int) : readyN (eN inn r t) 0 = (decide (0 < inn.length), false) := by
  unfold readyN
  rw [if_neg (by omega)]
  have hc : cnAt (eN inn r t) ((0 : Nat) : Int) = _ := cnAt_some (d := ⟨false, true, false, 1, false, false, true, inn, 0, r, 0, [], t⟩) rfl
  rw [show ((0 : Nat) : Int) = 0 from rfl] at hc
  rw [hc]
  simp
theorem eN_marks (inn : List Int) (r : Int) (t : List Int) : marksN (eN inn r t) 0 = (r, 0) := by
  unfold marksN
  rw [if_neg (by omega)]
  have hc : cnAt (eN inn r t) ((0 : Nat) : Int) = _ := cnAt_some (d := ⟨false, true, false, 1, false, false, true, inn, 0, r, 0, [], t⟩) rfl
  rw [show ((0 : Nat) : Int) = 0 from rfl] at hc
  rw [hc]
theorem ed_told (edge : Bool) (inn : List Int) (r tr : Int) (t : List Int) : toldD (eN inn r t) (edD edge tr) = (edT edge inn r tr, false, edD edge (if edge = true ∧ edT edge inn r tr = true then r else tr)) := by
  unfold toldD edT edD
  rw [eN_ready, eN_marks]
  cases edge
  · simp
  · cases h : decide (0 < inn.length) <;> cases h2 : decide (tr < r) <;> simp [h, h2]
theorem ed_evs (edge : Bool) (inn : List Int) (r tr : Int) (t : List Int) : evsP (eN inn r t) edL [((0, 1), edD edge tr)] = if edT edge inn r tr = true then [edE] else [] := by
  have h : evsP (eN inn r t) edL [((0, 1), edD edge tr)] = evOf (eN inn r t) (0, 1) (edD edge tr) := by
    simp [evsP, edL, allFrom, evAt, findW]
  rw [h]
  unfold evOf
  rw [ed_told]
  cases hh : edT edge inn r tr <;> simp [edE, edD]
theorem ed_toldP (edge : Bool) (inn : List Int) (r tr : Int) (t : List Int) : toldP (eN inn r t) [((0, 1), edD edge tr)] = [((0, 1), edD edge (if edge = true ∧ edT edge inn r tr = true then r else tr))] := by
  simp [toldP, ed_told]
theorem ed_pick (l : Bool) : pickE [] (if l = true then [edE] else []) = if l = true then [edE] else [] := by
  cases l <;> rfl
/-- something came: it is told. -/
theorem ed_came (edge : Bool) (inn : List Int) (r : Int) : edT edge (inn ++ [1]) (r + 1) (if edge = true then r else 0) = true := by
  cases edge <;> simp [edT]
  omega
theorem ed_cameT (inn : List Int) (r : Int) : edT true (inn ++ [1]) (r + 1) r = true := by simp [edT]; omega
theorem ed_cameF (inn : List Int) (r : Int) : edT false (inn ++ [1]) (r + 1) 0 = true := by simp [edT]
theorem ed_not (inn : List Int) (r : Int) : edT true inn r r = false := by simp [edT]
theorem ed_there (inn : List Int) (r tr : Int) : edT false inn r tr = decide (0 < inn.length) := by simp [edT]
theorem PS.less {w0 w : World} {pb n : Nat} {N : NS} {L : List Slot} {ds : WL} {A : List (Value × List Ev)} {C : List ((Nat × Nat) × Value)} (h : PS w0 w pb n N L ds A C) : PS w0 w pb n N L ds [] C := by
  obtain ⟨F, h1, h2, h3, h4, h5⟩ := h
  exact ⟨F, h1, h2, h3, by simp, h5⟩
/-- a Handle lies aside. -/
theorem PS.handle {w0 w : World} {pb n : Nat} {N : NS} {L : List Slot} {ds : WL} {A : List (Value × List Ev)} (h : PS w0 w pb n N L ds A []) (a b : Int) :
    PS w0 (w.alloc (.cells #[.int .i64 a, .int .i64 b] 30)) pb n N L ds A [((w.heap.size, 1), .int .i64 b), ((w.heap.size, 0), .int .i64 a)] := by
  have h1 := h.aside ((Keeps.refl [] w).alloc (.cells #[.int .i64 a, .int .i64 b] 30)) (g := w.heap.size) (i := 0) (v := .int .i64 a) (Nat.le_refl _) (by simp)
  obtain ⟨F, h1, h2, h3, h4, h5⟩ := h1
  refine ⟨F, h1, h2, h3, h4, fun c hc => ?_⟩
  have h6 := h5 ((w.heap.size, 0), .int .i64 a) (by simp)
  simp only [List.mem_cons, List.not_mem_nil, or_false] at hc
  rcases hc with rfl | rfl
  · exact ⟨h6.1, by simp⟩
  · exact h6
/-- the Handle's cells. -/
theorem PS.hcells {w0 w : World} {pb n hb : Nat} {N : NS} {L : List Slot} {ds : WL} {A : List (Value × List Ev)} {a b : Int} (h : PS w0 w pb n N L ds A [((hb, 1), .int .i64 b), ((hb, 0), .int .i64 a)]) :
    w.cell? ⟨hb, 0, none⟩ = some (.int .i64 a) ∧ w.cell? ⟨hb, 1, none⟩ = some (.int .i64 b) :=
  ⟨h.at_ (c := ((hb, 0), .int .i64 a)) (by simp), h.at_ (c := ((hb, 1), .int .i64 b)) (by simp)⟩
end Go.Proofs.Ytkeffebcmajhmaa
