/- Those who come, one behind the other, and are taken, one behind the other: plain words. -/
import Derived.Test.YtkeffebcmajhmaaNet18
namespace Go.Proofs.Ytkeffebcmajhmaa
open Go.RowKit
set_option linter.unusedVariables false
def accCn (p : Int) : Cn := { newCn p with waits := false, opn := true, taken := true }
/-- so many have come, so many of them have been taken. -/
def lineN (b f : Int) (ps : List Int) (j : Nat) : NS :=
  ⟨b, ps.mapIdx fun q p => if q < j then accCn p else newCn p, List.range' j (ps.length - j), false, f, ps.length, j⟩
theorem lineN_zero (b : Int) : lineN b 0 [] 0 = newN b := rfl
theorem lineN_inject (b f k : Int) (ps : List Int) (j : Nat) (h : 0 ≤ k) : injectN (lineN b f ps j) k = lineN b k ps j := by
  unfold injectN lineN
  simp
  omega
theorem lineN_connect (b f : Int) (ps : List Int) (p : Int) (h0 : 0 ≤ p) (h1 : p ≤ 255) (hb : (ps.length : Int) < b) (hl : ps.length < 65536) : connectN (lineN b f ps 0) p = (lineN b f (ps ++ [p]) 0, (ps.length : Int), 0) := by
  unfold connectN
  rw [if_neg (by omega), if_neg (by simp [lineN]), if_neg (by simp [lineN]; omega)]
  simp only [lineN, Nat.sub_zero, List.length_mapIdx, Prod.mk.injEq, and_true]
  congr 1
  · simp [List.mapIdx_append]
  · simp [List.range'_concat]
  · simp
theorem lineN_full (b f : Int) (ps : List Int) (p : Int) (h0 : 0 ≤ p) (h1 : p ≤ 255) (hb : b ≤ (ps.length : Int)) : connectN (lineN b f ps 0) p = (lineN b f ps 0, 0, 3) := by
  unfold connectN
  rw [if_neg (by omega), if_neg (by simp [lineN]), if_pos (.inl (by simp [lineN]; omega))]
theorem lineN_none (b f : Int) (ps : List Int) : acceptN (lineN b f ps ps.length) = (lineN b f ps ps.length, 0, 0, 2) := by
  unfold acceptN
  simp [lineN]
theorem lineN_fail (b f : Int) (ps : List Int) (h : 0 < ps.length) (hf : 0 < f) : acceptN (lineN b f ps 0) = (lineN b (f - 1) ps 0, 0, 0, 7) := by
  unfold acceptN
  cases ps with
  | nil => simp at h
  | cons a l =>
    have hr : List.range' 0 ((a :: l).length - 0) = 0 :: List.range' 1 l.length := by
      simp [List.range'_succ]
    simp only [lineN, hr]
    rw [if_neg (by simp), if_pos hf]
theorem lineN_accept (b : Int) (ps : List Int) (j : Nat) (p : Int) (hp : ps[j]? = some p) : acceptN (lineN b 0 ps j) = (lineN b 0 ps (j + 1), (j : Int), p, 0) := by
  have hj : j < ps.length := (List.getElem?_eq_some_iff.1 hp).1
  have hr : List.range' j (ps.length - j) = j :: List.range' (j + 1) (ps.length - (j + 1)) := by
    rw [show ps.length - j = (ps.length - (j + 1)) + 1 by omega, List.range'_succ]
  have hc : (ps.mapIdx fun q p => if q < j then accCn p else newCn p)[j]? = some (newCn p) := by
    simp [List.getElem?_mapIdx, hp]
  unfold acceptN
  simp only [lineN, hr]
  rw [if_neg (by simp), if_neg (by omega), hc]
  simp only [Prod.mk.injEq, and_true]
  refine ⟨?_, trivial, rfl⟩
  congr 1
  apply List.ext_getElem?
  intro i
  rw [List.getElem?_set]
  by_cases hi : j = i
  · subst hi
    rw [if_pos rfl, if_pos (by simpa using hj), List.getElem?_mapIdx, hp]
    simp [accCn]
  · rw [if_neg hi]
    simp only [List.getElem?_mapIdx]
    cases ps[i]? with
    | none => rfl
    | some x =>
      simp only [Option.map_some]
      by_cases h1 : i < j
      · rw [if_pos h1, if_pos (by omega)]
      · rw [if_neg h1, if_neg (by omega)]
def natsI (k : Nat) : List Int := (List.range k).map fun (j : Nat) => (j : Int)
theorem natsI_len (k : Nat) : (natsI k).length = k := by simp [natsI]
theorem natsI_succ (k : Nat) : natsI (k + 1) = natsI k ++ [(k : Int)] := by simp [natsI, List.range_succ]
theorem natsI_get (k j : Nat) (h : j < k) : (natsI k)[j]? = some (j : Int) := by simp [natsI, h]
end Go.Proofs.Ytkeffebcmajhmaa
