/- Arguments that are slices of slices of integers, opened. -/
import Derived.Test.YtkeffebcmajhmaaBase4
import Derived.Deep.Matrix
namespace Go.Proofs.Ytkeffebcmajhmaa
open Go.RowKit Go.Deep
theorem CellsIn.of_open' {w : World} {k : IntKind} {A : Option Addr} {len cap : Nat} {zs : List Int} (hl : len ≤ cap) (hm : cap ≤ maxLen) (hz : zs.length = cap) (h0 : A = none → cap = 0)
    (hcell : ∀ a, A = some a → ∀ i, i < cap → w.cell? (a.add i) = some (.int k (zs.getD i 0))) : CellsIn w [] (.slice A len cap) ((zs.take len).map (.int k)) := by
  cases A with
  | none =>
    have := h0 rfl
    have hl0 : len = 0 := by omega
    subst hl0
    subst this
    exact CellsIn.nil w []
  | some x => exact CellsIn.of_open hl hm hz (fun i hi => hcell x rfl i (by omega))
/-- a slice of slices of integers that came in. -/
theorem rows_of_open {H : Type} {enc : TypeId × Value → H} {P : Program} {w : World} {base : Nat} {held : Bool} {t e q : TypeId} {k : IntKind} {fuel : Nat} {v : Value} {x : DataW H × List MemPlace}
    (ht : P.underlying t = some (.slice e)) (he : P.underlying e = some (.slice q)) (hq : P.underlying q = some (.int k)) (ce : P.cellsOf e = 1) (cq : P.cellsOf q = 1)
    (h : DataW.trod enc P w base (fun _ => true) held fuel t [v] = some x) :
    ∃ rows : List (Value × List Int), CellsIn w [] v (rows.map (·.1)) ∧ (∀ r ∈ rows, CellsIn w [] r.1 (r.2.map (.int k))) ∧ ∀ r ∈ rows, ∀ n ∈ r.2, (Lit.int k n).wf = true := by
  rcases open_int_rows ht he hq ce cq h with ⟨hcs, -⟩ | ⟨a, len, cap, A, L, C, Z, hcs, -, hl, hm, -, hr⟩
  · injection hcs with hcs _
    subst hcs
    exact ⟨[], CellsIn.nil w [], by simp, by simp⟩
  · injection hcs with hcs _
    subst hcs
    refine ⟨(List.range len).map fun r => (.slice (A r) (L r) (C r), (Z r).take (L r)), ?_, ?_, ?_⟩
    · have hlen : (((List.range len).map fun r => ((.slice (A r) (L r) (C r), (Z r).take (L r)) : Value × List Int)).map (·.1)).length = len := by simp
      refine ⟨some a, cap, by rw [hlen], by omega, hm, fun hp => ?_⟩
      obtain ⟨b, o, spot⟩ := a
      have h0 := (hr 0 (by omega)).1
      have hspot : spot = none := by simpa [Addr.add] using World.cell?_spot h0
      subst hspot
      refine ⟨b, o, rfl, by simp, fun j u hu => ?_⟩
      have hj : j < len := by
        have := (List.getElem?_eq_some_iff.1 hu).1
        omega
      have h1 := (hr j (by omega)).1
      rw [Addr.add_lit] at h1
      rw [h1, ← hu]
      simp [hj]
    · intro r hrm
      obtain ⟨j, hj, rfl⟩ := List.mem_map.1 hrm
      have hj' : j < len := List.mem_range.1 hj
      obtain ⟨-, h2, h3, h4, -, h6, h7⟩ := hr j (by omega)
      exact CellsIn.of_open' h2 h3 h4 h6 (fun a' ha c hc => (h7 a' ha).2 c hc)
    · intro r hrm n hn
      obtain ⟨j, hj, rfl⟩ := List.mem_map.1 hrm
      have hj' : j < len := List.mem_range.1 hj
      obtain ⟨-, -, -, -, h5, -⟩ := hr j (by omega)
      exact h5 n (List.mem_of_mem_take hn)
end Go.Proofs.Ytkeffebcmajhmaa
