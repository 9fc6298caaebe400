/- More words for memory. -/
import Derived.Test.YtkeffebcmajhmaaBase
import Derived.Lib.SlBytesConst
namespace Go.Proofs.Ytkeffebcmajhmaa
open Go.RowKit
/-- a row that has just been laid. -/
theorem CellsIn.newM (w : World) (F : List Nat) (xs : List Value) (t : TypeId) (m : Nat × Nat) (hF : ∀ x ∈ F, x < w.heap.size) (hl : xs.length ≤ 9223372036854775807) :
    CellsIn (w.alloc (.cells xs.toArray t m)) F (.slice (some ⟨w.heap.size, 0, none⟩) xs.length xs.length) xs := by
  refine ⟨_, _, rfl, Nat.le_refl _, by unfold maxLen; omega, fun _ => ⟨_, _, rfl, fun hx => by have := hF _ hx; omega, fun j u hu => ?_⟩⟩
  have h := heap_alloc_new w (.cells xs.toArray t m)
  unfold World.cell?
  rw [h]
  simpa using hu
theorem run_convert_const {P : Program} (w : World) (t e : TypeId) (C : Array Value) (n c H : Nat) (ht : P.underlying t = some (.slice e)) (he : P.underlying e = some (.int .u8)) (hH : w.heap.size = H) :
    (convert t t (.slice (some ⟨H, 0, none⟩) n c)).run P (w.alloc (.cells C e)) = .ok (.slice (some ⟨H, 0, none⟩) n c) (w.alloc (.cells C e (C.size, C.size + 1))) := by
  subst hH
  exact Lib.run_convert_bytes_const w t e C n c ht he
/-- what was there lies in no newer block. -/
theorem CellsIn.old {w : World} {F G : List Nat} {v : Value} {xs : List Value} (h : CellsIn w F v xs) (hG : ∀ x ∈ G, w.heap.size ≤ x) : CellsIn w G v xs := by
  obtain ⟨A, c, hv, h1, h2, h3⟩ := h
  refine ⟨A, c, hv, h1, h2, fun hp => ?_⟩
  obtain ⟨b, o, hA, hb, hc⟩ := h3 hp
  refine ⟨b, o, hA, fun hx => ?_, hc⟩
  have h4 : b < w.heap.size := World.block_lt_of_cell? w _ (hc 0 _ (List.getElem?_eq_getElem hp))
  have h5 := hG b hx
  omega
/-- what a call leaves behind draws. -/
theorem Keeps.pre {w w' : World} {F : List Nat} {n : Nat} (h : Keeps F (w.drewN n) w') : Keeps F w w' := ⟨h.os, h.tape, h.output, h.size, h.block⟩
theorem Keeps.pre1 {w w' : World} {F : List Nat} (h : Keeps F w.drew w') : Keeps F w w' := ⟨h.os, h.tape, h.output, h.size, h.block⟩
theorem Row.empty (w : World) (e : TypeId) : Row (w.alloc (.cells #[] e)) e 1 (.slice (some ⟨w.heap.size, 0, none⟩) 0 0) 0 [] :=
  ⟨by simp, .inr ⟨w.heap.size, 0, 0, #[], rfl, Blk.new w e #[], Nat.le_refl _, by simp [maxLen], by simp, by simp⟩⟩
theorem CellsIn.nil (w : World) (F : List Nat) : CellsIn w F (.slice none 0 0) [] := ⟨none, 0, rfl, by simp, by simp [maxLen], by simp⟩
/-- a slice of integers that came in. -/
theorem CellsIn.of_open {w : World} {k : IntKind} {x : Addr} {len cap : Nat} {zs : List Int} (hl : len ≤ cap) (hm : cap ≤ maxLen) (hz : zs.length = cap)
    (hcell : ∀ i, i < zs.length → w.cell? (x.add i) = some (.int k (zs.getD i 0))) : CellsIn w [] (.slice (some x) len cap) ((zs.take len).map (.int k)) := by
  have hlen : ((zs.take len).map (Value.int k)).length = len := by simp; omega
  refine ⟨some x, cap, by rw [hlen], by omega, hm, fun hp => ?_⟩
  obtain ⟨b, o, spot⟩ := x
  have h0 := hcell 0 (by omega)
  have hspot : spot = none := by simpa [Addr.add] using World.cell?_spot h0
  subst hspot
  refine ⟨b, o, rfl, by simp, fun j u hu => ?_⟩
  have hj : j < len := by
    have := (List.getElem?_eq_some_iff.1 hu).1
    omega
  have h1 := hcell j (by omega)
  rw [Addr.add_lit] at h1
  rw [h1, ← hu]
  simp [hj, show j < zs.length by omega]
end Go.Proofs.Ytkeffebcmajhmaa
