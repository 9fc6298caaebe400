/- Cuts of slices: 's[lo:hi]', the address under one name. -/
import Derived.Test.YtkeffebcmajhmaaBase2
namespace Go.Proofs.Ytkeffebcmajhmaa
open Go.RowKit
/-- the address of a cut at lo. -/
def cutA (A : Option Addr) (lo cap size : Nat) : Option Addr := if cap = lo then A else A.map (·.add (lo * size))
theorem run_cut {P : Program} (w : World) (t e : TypeId) (i : TypeInfo) (size : Nat) (ht : P.underlying t = some (.slice e)) (hi : P.info? e = some i) (hs : i.size = size) (A : Option Addr) (len cap lo hi' : Nat) (l h : Int) (hl : l = lo) (hh : h = hi') (kl kh : IntKind)
    (h1 : lo ≤ hi') (h2 : hi' ≤ cap) : (Instr.slice t (.slice A len cap) (some (.int kl l)) (some (.int kh h)) none).run P w = .ok (.slice (cutA A lo cap size) (hi' - lo) (cap - lo)) w := by
  subst hl hh
  have he : P.elem t = e := by simp [Program.elem, ht]
  have hr := run_slice_lh (P := P) (w := w) t A len cap (by rw [he]; exact ht) kl kh (lo : Int) (hi' : Int) (by omega) (by omega) (by omega)
  rw [hr, he]
  simp [sizeOf, typeInfo, hi, hs, sliced, cutA]
theorem run_cut_lo {P : Program} (w : World) (t e : TypeId) (i : TypeInfo) (size : Nat) (ht : P.underlying t = some (.slice e)) (hi : P.info? e = some i) (hs : i.size = size) (A : Option Addr) (len cap lo : Nat) (l : Int) (hl : l = lo) (kl : IntKind)
    (h1 : lo ≤ len) : (Instr.slice t (.slice A len cap) (some (.int kl l)) none none).run P w = .ok (.slice (cutA A lo cap size) (len - lo) (cap - lo)) w := by
  subst hl
  have he : P.elem t = e := by simp [Program.elem, ht]
  have hr := run_slice_l (P := P) (w := w) t A len cap (by rw [he]; exact ht) kl (lo : Int) (by omega) (by omega)
  rw [hr, he]
  simp [sizeOf, typeInfo, hi, hs, sliced, cutA]
theorem CellsIn.cut {w : World} {F : List Nat} {xs : List Value} {A : Option Addr} {n c : Nat} (h : CellsIn w F (.slice A n c) xs) {lo hi : Nat} (h1 : lo ≤ hi) (h2 : hi ≤ n) :
    CellsIn w F (.slice (cutA A lo c 1) (hi - lo) (c - lo)) ((xs.drop lo).take (hi - lo)) := by
  obtain ⟨A', c', hv, h3, h4, h5⟩ := h
  injection hv with hA hn hc
  subst hA hn hc
  have hl : ((xs.drop lo).take (hi - lo)).length = hi - lo := by rw [List.length_take, List.length_drop]; omega
  refine ⟨cutA A lo c 1, c - lo, by rw [hl], by omega, by omega, fun hp => ?_⟩
  obtain ⟨b, o, rfl, hb, hcell⟩ := h5 (by omega)
  refine ⟨b, o + lo, ?_, hb, fun j u hu => ?_⟩
  · unfold cutA
    rw [if_neg (by omega), Option.map_some, Addr.add_lit, Nat.mul_one]
  · rw [List.getElem?_take] at hu
    split at hu
    · rw [List.getElem?_drop] at hu
      rw [Nat.add_assoc]
      exact hcell _ u hu
    · cases hu
theorem ownBlock_cut (A : Option Addr) (lo cap size n c : Nat) : (Value.slice (cutA A lo cap size) n c).ownBlock = (Value.slice A n c).ownBlock := by
  unfold cutA
  split
  · rfl
  · cases A with
    | none => rfl
    | some a =>
      simp only [Option.map_some, Value.ownBlock, Addr.add]
      split <;> rfl
theorem Row.cut {w : World} {e : TypeId} {size : Nat} {xs : List Value} {A : Option Addr} {n c : Nat} (h : Row w e size (.slice A n c) n xs) {lo : Nat} (h1 : lo ≤ n) :
    Row w e size (.slice (cutA A lo c size) (n - lo) (c - lo)) (n - lo) (xs.drop (lo * size)) := by
  obtain ⟨hl, h⟩ := h
  refine ⟨by rw [List.length_drop, hl, Nat.sub_mul], ?_⟩
  rcases h with ⟨hv, hn⟩ | ⟨g, off, cap, cur, hv, hg, h2, h3, h4, h5⟩
  · injection hv with hA _ hc
    subst hA hc
    left
    have hlo : lo = 0 := by omega
    subst hlo
    simp [cutA, hn]
  · injection hv with hA _ hc
    subst hA hc
    right
    by_cases hcl : c = lo
    · subst hcl
      refine ⟨g, off, 0, cur, ?_, hg, by omega, by omega, by omega, ?_⟩
      · simp [cutA]
      · have : n - c = 0 := by omega
        rw [this, Nat.zero_mul, List.take_zero]
        rw [List.drop_eq_nil_of_le]
        rw [hl]
        exact Nat.mul_le_mul_right _ (by omega)
    · refine ⟨g, off + lo * size, c - lo, cur, ?_, hg, by omega, by omega, ?_, ?_⟩
      · simp [cutA, hcl, Addr.add_lit]
      · rw [Nat.sub_mul]
        have : lo * size ≤ c * size := Nat.mul_le_mul_right _ (by omega)
        omega
      · rw [← h5, List.drop_take, List.drop_drop, Nat.sub_mul]
end Go.Proofs.Ytkeffebcmajhmaa
