/- Arguments that are slices of slices of integers, opened, with a bound on the rows out of the reading's bulk. -/
import Derived.Test.YtkeffebcmajhmaaOpen
import Derived.Test.YtkeffebcmajhmaaRows
namespace Go.Proofs.Ytkeffebcmajhmaa
open Go.RowKit Go.Deep Go.ChangeShapes
theorem bulk_lits {H : Type} (k : IntKind) : ∀ zs : List Int, Rows.uptoBulkAll (lits (H := H) k zs) = zs.length
  | [] => rfl
  | z :: zs => by
    have h := bulk_lits (H := H) k zs
    unfold lits at h ⊢
    simp only [List.map_cons, Rows.uptoBulkAll, Rows.uptoBulk, h, List.length_cons]
    omega
theorem bulk_row {H : Type} (k : IntKind) (A : Option Addr) (L : Nat) (zs : List Int) (h : A = none → zs = []) : zs.length ≤ Rows.uptoBulk (intRow (H := H) k A L zs) := by
  cases A with
  | none => simp [h rfl]
  | some a =>
    simp only [intRow, Rows.uptoBulk, bulk_lits, List.length_take, List.length_drop]
    omega
theorem bulk_mem {H : Type} : ∀ (ds : List (DataW H)) (d : DataW H), d ∈ ds → Rows.uptoBulk d ≤ Rows.uptoBulkAll ds
  | [], _, h => by cases h
  | e :: ds, d, h => by
    simp only [Rows.uptoBulkAll]
    rcases List.mem_cons.1 h with rfl | h
    · omega
    · have := bulk_mem ds d h
      omega
/-- a slice of slices of integers that came in, its rows bounded by its bulk. -/
theorem rows_upto {H : Type} {enc : TypeId × Value → H} {P : Program} {w : World} {base : Nat} {held : Bool} {t e q : TypeId} {k : IntKind} {fuel : Nat} {v : Value} {x : DataW H × List MemPlace}
    (ht : P.underlying t = some (.slice e)) (he : P.underlying e = some (.slice q)) (hq : P.underlying q = some (.int k)) (ce : P.cellsOf e = 1) (cq : P.cellsOf q = 1)
    (h : DataW.trod enc P w base (fun _ => true) held fuel t [v] = some x) :
    ∃ rows : List (Value × List Int), CellsIn w [] v (rows.map (·.1)) ∧ (∀ r ∈ rows, CellsIn w [] r.1 (r.2.map (.int k))) ∧ (∀ r ∈ rows, ∀ n ∈ r.2, (Lit.int k n).wf = true) ∧ ∀ r ∈ rows, r.2.length ≤ Rows.uptoBulk x.1 := by
  rcases open_int_rows ht he hq ce cq h with ⟨hcs, -⟩ | ⟨a, len, cap, A, L, C, Z, hcs, -, hl, hm, hx, hr⟩
  · injection hcs with hcs _
    subst hcs
    exact ⟨[], CellsIn.nil w [], by simp, by simp, by simp⟩
  · injection hcs with hcs _
    subst hcs
    refine ⟨(List.range len).map fun r => (.slice (A r) (L r) (C r), (Z r).take (L r)), ?_, ?_, ?_, ?_⟩
    · have hlen : (((List.range len).map fun r => ((.slice (A r) (L r) (C r), (Z r).take (L r)) : Value × List Int)).map (·.1)).length = len := by simp
      refine ⟨some a, cap, by rw [hlen], by omega, hm, fun hp => ?_⟩
      obtain ⟨b, o, spot⟩ := a
      have h0 := (hr 0 (by omega)).1
      have hspot : spot = none := by simpa [Addr.add] using World.cell?_spot h0
      subst hspot
      refine ⟨b, o, rfl, by simp, fun j u hu => ?_⟩
      have hj : j < len := by
        have := (List.getElem?_eq_some_iff.1 hu).1
        omega
      have h1 := (hr j (by omega)).1
      rw [Addr.add_lit] at h1
      rw [h1, ← hu]
      simp [hj]
    · intro r hrm
      obtain ⟨j, hj, rfl⟩ := List.mem_map.1 hrm
      have hj' : j < len := List.mem_range.1 hj
      obtain ⟨-, h2, h3, h4, -, h6, h7⟩ := hr j (by omega)
      exact CellsIn.of_open' h2 h3 h4 h6 (fun a' ha c hc => (h7 a' ha).2 c hc)
    · intro r hrm n hn
      obtain ⟨j, hj, rfl⟩ := List.mem_map.1 hrm
      have hj' : j < len := List.mem_range.1 hj
      obtain ⟨-, -, -, -, h5, -⟩ := hr j (by omega)
      exact h5 n (List.mem_of_mem_take hn)
    · intro r hrm
      obtain ⟨j, hj, rfl⟩ := List.mem_map.1 hrm
      have hj' : j < len := List.mem_range.1 hj
      obtain ⟨-, -, -, h4, -, h6, -⟩ := hr j (by omega)
      have h8 := bulk_row (H := H) k (A j) (L j) (Z j) (fun hA => List.eq_nil_of_length_eq_zero (by rw [h4, h6 hA]))
      have h9 := bulk_mem ((List.range len).map fun r => intRow (H := H) k (A r) (L r) (Z r)) _ (List.mem_map.2 ⟨j, hj, rfl⟩)
      rw [hx]
      simp only [Rows.uptoBulk, List.length_take]
      omega
end Go.Proofs.Ytkeffebcmajhmaa
