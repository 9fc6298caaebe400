/- The ring and the reference's ring, side by side; Write of two parts that lie in a block laid for it. -/
import Derived.Test.YtkcncnbjojejeaaRefr2
namespace Go.Proofs.Ytkcncnbjojejeaa
open Go.RowKit
set_option linter.unusedVariables false
def RSB (w W : World) (a g x S f : Nat) (F : List Nat) (q : List Int) : Prop :=
  RingRep W a g S f q ∧ RR W x F S q ∧ w.heap.size ≤ a ∧ w.heap.size ≤ g ∧ (∀ j ∈ F, w.heap.size ≤ j) ∧ a ∉ F ∧ g ∉ F ∧ Keeps [] w W ∧ S ≤ 65536
def RSt (w W : World) (a g x S : Nat) : Prop := ∃ f F q, RSB w W a g x S f F q
section
variable {w W W' : World} {a g x S f : Nat} {F K : List Nat} {q : List Int}
theorem RSB.keepsF (h : RSB w W a g x S f F q) (hk : Keeps K W W') (ha : a ∉ K) (hg : g ∉ K) (hF : ∀ j ∈ F, j ∉ K) (hw : ∀ j ∈ K, w.heap.size ≤ j) : RSB w W' a g x S f F q := by
  obtain ⟨h1, h2, h3, h4, h5, h6, h7, h8, h9⟩ := h
  exact ⟨h1.keeps hk ha hg, h2.keeps hk hF, h3, h4, h5, h6, h7, h8.trans hk (fun j hj => .inr (hw j hj)), h9⟩
theorem RSB.keeps (h : RSB w W a g x S f F q) (hk : Keeps [] W W') : RSB w W' a g x S f F q := h.keepsF hk (by simp) (by simp) (by simp) (by simp)
theorem RSB.len (h : RSB w W a g x S f F q) : q.length ≤ S := h.1.2.2.2.2.1
/-- the ring has turned, then the reference's. -/
theorem RSB.turn {W1 W2 W3 : World} {f' : Nat} {F' : List Nat} {q' : List Int} (h : RSB w W a g x S f F q) (hr : RingRep W1 a g S f' q') (hk1 : Keeps [a, g] W W1) (hx : RR W2 x F' S q') (hl : Later F W1 F') (hk2 : Keeps F W1 W2) (hk3 : Keeps [] W2 W3) : RSt w W3 a g x S := by
  obtain ⟨h1, h2, h3, h4, h5, h6, h7, h8, h9⟩ := h
  have z1 := hk1.size
  have z2 := h8.size
  have ha1 : a < W1.heap.size := hr.lt.1
  have hg1 : g < W1.heap.size := hr.lt.2
  refine ⟨f', F', q', (hr.keeps hk2 h6 h7).keeps hk3 (by simp) (by simp), hx.keeps hk3 (by simp), h3, h4, fun j hj => ?_, fun hj => ?_, fun hj => ?_, ((h8.trans hk1 (fun j hj => ?_)).trans hk2 (fun j hj => .inr (h5 j hj))).trans hk3 (by simp), h9⟩
  · rcases hl j hj with h | h
    · exact h5 j h
    · omega
  · rcases hl a hj with h | h
    · exact h6 h
    · omega
  · rcases hl g hj with h | h
    · exact h7 h
    · omega
  · simp at hj
    rcases hj with rfl | rfl
    · exact .inr h3
    · exact .inr h4
end
/-- .. and then blocks that are neither's. -/
theorem RSB.turnK {w W W1 W2 W3 W4 : World} {a g x S f f' : Nat} {F F' K : List Nat} {q q' : List Int} (h : RSB w W a g x S f F q) (hr : RingRep W1 a g S f' q') (hk1 : Keeps [a, g] W W1) (hx : RR W2 x F' S q') (hl : Later F W1 F') (hk2 : Keeps F W1 W2) (hk3 : Keeps [] W2 W3)
    (hk4 : Keeps K W3 W4) (hK : ∀ j ∈ K, j ∉ [a, g] ++ F ∧ j < W.heap.size ∧ w.heap.size ≤ j) : RSt w W4 a g x S := by
  obtain ⟨h1, h2, h3, h4, h5, h6, h7, h8, h9⟩ := h
  have z1 := hk1.size
  have z2 := h8.size
  have ha1 : a < W1.heap.size := hr.lt.1
  have hg1 : g < W1.heap.size := hr.lt.2
  have haK : a ∉ K := fun hx => (hK a hx).1 (by simp)
  have hgK : g ∉ K := fun hx => (hK g hx).1 (by simp)
  have hFK : ∀ j ∈ F', j ∉ K := fun j hj hx => by
    have h10 := hK j hx
    rcases hl j hj with h | h
    · exact h10.1 (by simp [h])
    · omega
  refine ⟨f', F', q', ((hr.keeps hk2 h6 h7).keeps hk3 (by simp) (by simp)).keeps hk4 haK hgK, (hx.keeps hk3 (by simp)).keeps hk4 hFK, h3, h4, fun j hj => ?_, fun hj => ?_, fun hj => ?_, (((h8.trans hk1 (fun j hj => ?_)).trans hk2 (fun j hj => .inr (h5 j hj))).trans hk3 (by simp)).trans hk4 (fun j hj => .inr (hK j hj).2.2), h9⟩
  · rcases hl j hj with h | h
    · exact h5 j h
    · omega
  · rcases hl a hj with h | h
    · exact h6 h
    · omega
  · rcases hl g hj with h | h
    · exact h7 h
    · omega
  · simp at hj
    rcases hj with rfl | rfl
    · exact .inr h3
    · exact .inr h4
theorem clip_self' (L : Nat) : clip (L : Int) L = L := by unfold clip; split <;> omega
theorem rlen (x S : Nat) (F : List Nat) (bs : List Int) (w : World) (h : RR w x F S bs) : ∃ A c, w.cell? ⟨x, 1, none⟩ = some (.slice A bs.length c) ∧ CellsIn w [] (.slice A bs.length c) (bytesV bs) := by
  obtain ⟨vb, h1, h2, -⟩ := h
  obtain ⟨A, c, rfl, -⟩ := h2.form
  exact ⟨A, c, by simpa using h1.cell 1, h2.cellsIn (by simp)⟩
theorem two_in {W : World} {G : List Nat} {H : Nat} {a b : Value} (hB : Blk W H 32 #[a, b]) (hG : H ∉ G) : CellsIn W G (.slice (some ⟨H, 0, none⟩) 2 2) [a, b] :=
  ⟨_, 2, rfl, by simp, by simp [maxLen], fun _ => ⟨H, 0, rfl, hG, fun j u hj => by
    rw [hB.cell, Nat.zero_add]
    simpa using hj⟩⟩
def WPost (a g S f : Nat) (q fl : List Int) (W : World) (e : Ending) (w' : World) : Prop :=
  e = .returned (.int .i64 ((((q ++ fl).take S).length : Int) - q.length)) ∧ RingRep w' a g S f ((q ++ fl).take S) ∧ Keeps [a, g] W w'
theorem write2 (a g S f : Nat) (q : List Int) (va vb : Value) (zb zc : List Int) (W0 W : World) (H : Nat) (h : RingRep W0 a g S f q) (hk : Keeps [] W0 W) (hB : Blk W H 32 #[va, vb]) (hH : W0.heap.size ≤ H)
    (ha : CellsIn W0 [a, g] va (bytesV zb)) (hb : CellsIn W0 [a, g] vb (bytesV zc)) :
    Calls Try.prog 17 #[.pointer (some ⟨a, 0, none⟩), .slice (some ⟨H, 0, none⟩) 2 2] W (WPost a g S f q (zb ++ zc) W) := by
  have hf : poured S q [(va, zb), (vb, zc)] = (q ++ (zb ++ zc)).take S := by simp [poured]
  refine (write_any a g S f q _ _ _ [(va, zb), (vb, zc)] W (h.keeps hk (by simp) (by simp)) ?_ ?_ hf rfl).mono ?_
  · refine two_in hB (fun hx => ?_)
    have := h.lt
    simp at hx
    omega
  · intro r hr
    simp at hr
    rcases hr with rfl | rfl
    · exact ha.keeps hk (by simp)
    · exact hb.keeps hk (by simp)
  · rintro e w' ⟨rfl, h1, h2⟩
    exact ⟨rfl, h1, h2⟩
def RWPost (x S : Nat) (F : List Nat) (q fl : List Int) (W0 W : World) (e : Ending) (w' : World) : Prop :=
  e = .returned (.int .i64 ((((q ++ fl).take S).length : Int) - q.length)) ∧ (∃ F', RR w' x F' S ((q ++ fl).take S) ∧ Later F W0 F') ∧ Keeps F W w'
theorem rwrite2 (x S : Nat) (F : List Nat) (q : List Int) (va vb : Value) (zb zc : List Int) (W0 W : World) (H : Nat) (h : RR W0 x F S q) (hS : S ≤ 65536) (hq : q.length ≤ S) (hk : Keeps [] W0 W) (hB : Blk W H 32 #[va, vb]) (hH : H ∉ F)
    (ha : CellsIn W0 F va (bytesV zb)) (hb : CellsIn W0 F vb (bytesV zc)) :
    Calls Try.prog 18 #[.pointer (some ⟨x, 0, none⟩), .slice (some ⟨H, 0, none⟩) 2 2] W (RWPost x S F q (zb ++ zc) W0 W) := by
  have hf : poured S q [(va, zb), (vb, zc)] = (q ++ (zb ++ zc)).take S := by simp [poured]
  refine (rwrite_any x S F q _ [(va, zb), (vb, zc)] W (h.keeps hk (by simp)) hS hq ?_ ?_).mono ?_
  · exact two_in hB hH
  · intro r hr
    simp at hr
    rcases hr with rfl | rfl
    · exact ha.keeps hk (by simp)
    · exact hb.keeps hk (by simp)
  · rw [hf]
    rintro e w' ⟨rfl, ⟨G', h1, h2⟩, h3⟩
    refine ⟨rfl, ⟨G', h1, fun j hj => ?_⟩, h3⟩
    rcases h2 j hj with h4 | h4
    · exact .inl h4
    · have := hk.size
      exact .inr (by omega)
end Go.Proofs.Ytkcncnbjojejeaa
