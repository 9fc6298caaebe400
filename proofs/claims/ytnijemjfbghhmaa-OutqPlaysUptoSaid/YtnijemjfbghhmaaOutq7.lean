/- pieces and ends. -/
import Derived.Test.YtnijemjfbghhmaaOutqPartsWalk
namespace Go.Proofs.Ytnijemjfbghhmaa
open Go.RowKit
/-- the pieces that end at es, behind those told, at bytes on. -/
def pcs : Int → Int → List Int → List (Int × Int)
  | _, _, [] => []
  | at', told, e :: es => (told + 1, e - at') :: pcs e (told + 1) es
def lastOf : Int → List Int → Int
  | a, [] => a
  | _, e :: es => lastOf e es
theorem pcs_length : ∀ (es : List Int) (a t : Int), (pcs a t es).length = es.length
  | [], _, _ => rfl
  | e :: es, a, t => by simp [pcs, pcs_length es]
def told1 (t : Int) (n : Nat) : Int := t + 1 + n + 1
theorem pcs_snoc : ∀ (es : List Int) (a t x : Int), pcs a t (es ++ [x]) = pcs a t es ++ [(t + es.length + 1, x - lastOf a es)]
  | [], a, t, x => by simp [pcs, lastOf]
  | e :: es, a, t, x => by
    have h1 : told1 t es.length = t + ((e :: es).length : Nat) + 1 := by
      unfold told1
      simp
      omega
    simp only [List.cons_append, pcs, lastOf, pcs_snoc es]
    unfold told1 at h1
    rw [h1]
theorem lastOf_snoc : ∀ (es : List Int) (a x : Int), lastOf a (es ++ [x]) = x
  | [], _, _ => rfl
  | e :: es, a, x => by simp only [List.cons_append, lastOf, lastOf_snoc es]
theorem settle_pcs : ∀ (es : List Int) (a told d : Int), ∃ t, t ≤ es.length ∧ settle (pcs a told es) d = ((List.range t).map (fun i : Nat => told + 1 + i), pcs (a + d) (told + t) (es.drop t)) ∧
    (∀ i e, i < t → es[i]? = some e → e ≤ a + d) ∧ (∀ e, es[t]? = some e → a + d < e)
  | [], a, told, d => ⟨0, by simp, by simp [pcs, settle], by simp, by simp⟩
  | e :: es, a, told, d => by
    simp only [pcs, settle]
    by_cases h : e - a ≤ d
    · rw [if_pos h]
      obtain ⟨t, h1, h2, h3, h4⟩ := settle_pcs es e (told + 1) (d - (e - a))
      have he : e + (d - (e - a)) = a + d := by omega
      rw [he] at h2 h3 h4
      refine ⟨t + 1, by simp; omega, ?_, ?_, ?_⟩
      · rw [h2, List.range_succ_eq_map]
        simp only [List.map_cons, List.map_map, List.drop_succ_cons, Int.natCast_zero, Int.add_zero]
        congr 1
        · congr 1
          refine List.map_congr_left fun i _ => ?_
          simp
          omega
        · congr 1
          simp
          omega
      · intro i x hi hx
        cases i with
        | zero =>
          simp at hx
          omega
        | succ i => exact h3 i x (by omega) (by simpa using hx)
      · intro x hx
        exact h4 x (by simpa using hx)
    · rw [if_neg h]
      refine ⟨0, by omega, ?_, by omega, ?_⟩
      · simp [pcs]
        omega
      · intro x hx
        simp at hx
        omega
theorem sized_settle : ∀ (ps : List (Int × Int)) (d : Int), Sized ps → 0 ≤ d → Sized (settle ps d).2
  | [], _, _, _ => by simp [settle, Sized]
  | (n, l) :: ps, d, h, h0 => by
    simp only [settle]
    split
    · exact sized_settle ps (d - l) (fun p hp => h p (List.mem_cons_of_mem _ hp)) (by omega)
    · intro p hp
      rcases List.mem_cons.1 hp with rfl | hp
      · have := h (n, l) List.mem_cons_self
        simp only at this ⊢
        omega
      · exact h p (List.mem_cons_of_mem _ hp)
theorem CellsIn.later {w w' : World} {G G' : List Nat} {v : Value} {xs : List Value} (h : CellsIn w G v xs) (hk : Keeps G w w') (hl : Later G w G') : CellsIn w' G' v xs := by
  obtain ⟨A, c, hv, h1, h2, h3⟩ := h
  refine ⟨A, c, hv, h1, h2, fun hp => ?_⟩
  obtain ⟨b, o, hA, hb, hc⟩ := h3 hp
  have hlt : b < w.heap.size := World.block_lt_of_cell? w _ (hc 0 _ (List.getElem?_eq_getElem hp))
  refine ⟨b, o, hA, fun hx => ?_, fun j u hu => cell_keep hk hb (hc j u hu)⟩
  rcases hl b hx with h | h
  · exact hb h
  · omega
end Go.Proofs.Ytnijemjfbghhmaa
