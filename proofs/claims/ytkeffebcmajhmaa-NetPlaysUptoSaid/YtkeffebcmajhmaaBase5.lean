/- A row opened: its cells, a store into it. -/
import Derived.Test.YtkeffebcmajhmaaBase4
namespace Go.Proofs.Ytkeffebcmajhmaa
open Go.RowKit
theorem Row.open_ {w : World} {e : TypeId} {size : Nat} {v : Value} {n : Nat} {xs : List Value} (h : Row w e size v n xs) (hn : 0 < n) :
    ∃ g off cap, v = .slice (some ⟨g, off, none⟩) n cap ∧ n ≤ cap ∧ g < w.heap.size ∧ (∀ j u, xs[j]? = some u → w.cell? ⟨g, off + j, none⟩ = some u) ∧ (∀ j, w.frozen? ⟨g, j, none⟩ = false) ∧
      (∀ j u, j < xs.length → Row (w.setCell ⟨g, off + j, none⟩ u) e size v n (xs.set j u)) := by
  obtain ⟨hl, h⟩ := h
  rcases h with ⟨rfl, rfl⟩ | ⟨g, off, cap, cur, rfl, hg, h1, h2, h3, h4⟩
  · omega
  · refine ⟨g, off, cap, rfl, h1, hg.lt, fun j u hu => ?_, hg.frozen, fun j u hj => ?_⟩
    · rw [hg.cell]
      rw [← h4, List.getElem?_take, List.getElem?_drop] at hu
      split at hu
      · simpa using hu
      · cases hu
    · refine ⟨by simpa using hl, .inr ⟨g, off, cap, _, rfl, hg.set_ (off + j) u, h1, h2, by simpa using h3, ?_⟩⟩
      rw [Array.toList_setIfInBounds, ← h4]
      rw [List.drop_set, if_neg (by omega), Nat.add_sub_cancel_left, List.take_set]
end Go.Proofs.Ytkeffebcmajhmaa
