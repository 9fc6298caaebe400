/- Add of two parts that lie in a block laid for it. -/
import Derived.Test.YtnijemjfbghhmaaOutq8
namespace Go.Proofs.Ytnijemjfbghhmaa
open Go.RowKit
theorem alloc_cell {w : World} {p : Addr} {v : Value} (h : w.cell? p = some v) (o : Obj) : (w.alloc o).cell? p = some v :=
  (World.cell?_of_block (w := w) (Below.heap_alloc w o _ (World.block_lt_of_cell? w p h))).trans h
theorem drew_cell {w : World} {p : Addr} {v : Value} (h : w.cell? p = some v) : w.drew.cell? p = some v := h
theorem drewN_cell {w : World} {p : Addr} {v : Value} (h : w.cell? p = some v) (n : Nat) : (w.drewN n).cell? p = some v := h
theorem Blk.newAt {w : World} {t : TypeId} {cs : Array Value} {H : Nat} (h : w.heap.size = H) : Blk (w.alloc (.cells cs t)) H t cs := by
  subst h
  exact Blk.new w t cs
theorem two_in {W : World} {G : List Nat} {H : Nat} {a b : Value} (hB : Blk W H 24 #[a, b]) (hG : H ∉ G) : CellsIn W G (.slice (some ⟨H, 0, none⟩) 2 2) [a, b] :=
  ⟨_, 2, rfl, by simp, by simp [maxLen], fun _ => ⟨H, 0, rfl, hG, fun j u hj => by
    rw [hB.cell, Nat.zero_add]
    simpa using hj⟩⟩
def AddPost (q : Nat) (G : List Nat) (bs fl : List Int) (ps : List (Int × Int)) (last : Int) (W0 W : World) (e : Ending) (w' : World) : Prop :=
  e = .returned (.int .i64 (last + 1)) ∧ (∃ G', QRep w' q G' (bs ++ fl) (ps ++ [(last + 1, (fl.length : Int))]) (last + 1) ∧ Later G W0 G') ∧ Keeps G W w'
theorem add2 (q : Nat) (G : List Nat) (bs : List Int) (ps : List (Int × Int)) (last : Int) (a b : Value) (zb zc : List Int) (W0 W : World) (H : Nat) (h : QRep W0 q G bs ps last) (hk : Keeps [] W0 W) (hB : Blk W H 24 #[a, b]) (hH : W0.heap.size ≤ H)
    (ha : CellsIn W0 G a (bytesV zb)) (hb : CellsIn W0 G b (bytesV zc)) (hl0 : 0 ≤ last) (hl1 : last ≤ 1099511627776) (hbs : bs.length + (zb ++ zc).length ≤ 1099511627776) (hps : ps.length ≤ 1099511627776) :
    Calls Try.prog 9 #[.pointer (some ⟨q, 0, none⟩), .slice (some ⟨H, 0, none⟩) 2 2] W (AddPost q G bs (zb ++ zc) ps last W0 W) := by
  have hf : flat [(a, zb), (b, zc)] = zb ++ zc := by simp [flat]
  refine (add_any q G bs ps last _ [(a, zb), (b, zc)] W (h.keeps hk (by simp)) ?_ ?_ hl0 hl1 (by rw [hf]; exact hbs) hps).mono ?_
  · exact two_in hB (fun hx => by have := h.flt _ hx; omega)
  · intro r hr
    simp at hr
    rcases hr with rfl | rfl
    · exact ha.keeps hk (by simp)
    · exact hb.keeps hk (by simp)
  · rw [hf]
    rintro e w' ⟨rfl, ⟨G', h1, h2⟩, h3⟩
    refine ⟨rfl, ⟨G', h1, fun j hj => ?_⟩, h3⟩
    rcases h2 j hj with h4 | h4
    · exact .inl h4
    · have := hk.size
      exact .inr (by omega)
def RAddPost (x : Nat) (F : List Nat) (bs es fl : List Int) (g t : Int) (W0 W : World) (e : Ending) (w' : World) : Prop :=
  e = .returned (.int .i64 ((es.length : Int) + 1)) ∧ (∃ F', RQ w' x F' (bs ++ fl) (es ++ [g + (bs ++ fl).length]) g t ∧ Later F W0 F') ∧ Keeps F W w'
theorem radd2 (x : Nat) (F : List Nat) (bs es : List Int) (g t : Int) (a b : Value) (zb zc : List Int) (W0 W : World) (H : Nat) (h : RQ W0 x F bs es g t) (hk : Keeps [] W0 W) (hB : Blk W H 24 #[a, b]) (hH : H ∉ F)
    (ha : CellsIn W0 F a (bytesV zb)) (hb : CellsIn W0 F b (bytesV zc)) (hg0 : 0 ≤ g) (hg1 : g ≤ 1099511627776) (hbs : bs.length + (zb ++ zc).length ≤ 1099511627776) (hes : es.length ≤ 1099511627776) :
    Calls Try.prog 19 #[.pointer (some ⟨x, 0, none⟩), .slice (some ⟨H, 0, none⟩) 2 2] W (RAddPost x F bs es (zb ++ zc) g t W0 W) := by
  have hf : flat [(a, zb), (b, zc)] = zb ++ zc := by simp [flat]
  refine (radd_any x F bs es g t _ [(a, zb), (b, zc)] W (h.keeps hk (by simp)) ?_ ?_ hg0 hg1 (by rw [hf]; exact hbs) hes).mono ?_
  · exact two_in hB hH
  · intro r hr
    simp at hr
    rcases hr with rfl | rfl
    · exact ha.keeps hk (by simp)
    · exact hb.keeps hk (by simp)
  · rw [hf]
    rintro e w' ⟨rfl, ⟨G', h1, h2⟩, h3⟩
    refine ⟨rfl, ⟨G', h1, fun j hj => ?_⟩, h3⟩
    rcases h2 j hj with h4 | h4
    · exact .inl h4
    · have := hk.size
      exact .inr (by omega)
theorem plays_add_done {w wr wb wq wx ws w7 w8 : World} {q x k : Nat} {G H G' H' F7 F8 : List Nat} {bs es fl : List Int} {g : Int} {t : Nat} (hst : StB w wr q x k G H bs es g t) (kab : Keeps [] wr wb)
    (hq : QRep wq q G' (bs ++ fl) (pcs g t (es.drop t) ++ [((es.length : Int) + 1, (fl.length : Int))]) ((es.length : Int) + 1)) (hl : Later G wb G') (hkq : Keeps G wb wq)
    (hr : RQ wx x H' (bs ++ fl) (es ++ [g + ((bs ++ fl).length : Nat)]) g t) (hm : Later H wq H') (hkx : Keeps H wq wx) (hks : Keeps [] wx ws) (hk7 : Keeps F7 ws w7) (hk8 : Keeps F8 w7 w8)
    (h7 : ∀ j ∈ F7, wr.heap.size ≤ j ∧ j < wb.heap.size) (h8 : ∀ j ∈ F8, wr.heap.size ≤ j ∧ j < wb.heap.size) (hf : fl.length ≤ 2097152) : St w w8 q x (k + 1) := by
  obtain ⟨s1, s2, s3, s4, s5, s6, s7, s8, s9, s10, s11, s12⟩ := hst
  have z1 := kab.size
  have z2 := hkq.size
  have z0 := s12.size
  have g1 : ∀ j ∈ G', (j ∈ G ∧ j < wr.heap.size) ∨ wb.heap.size ≤ j := fun j hj => by
    rcases hl j hj with h | h
    · exact .inl ⟨h, s1.flt j h⟩
    · exact .inr h
  have r1 : ∀ j ∈ H', (j ∈ H ∧ j < wr.heap.size) ∨ wq.heap.size ≤ j := fun j hj => by
    rcases hm j hj with h | h
    · exact .inl ⟨h, s2.flt j h⟩
    · exact .inr h
  have gH : ∀ j ∈ G', j ∉ H := fun j hj hx => by
    rcases g1 j hj with h | h
    · exact s11 j h.1 hx
    · have := s2.flt j hx
      omega
  have g7 : ∀ j ∈ G', j ∉ F7 := fun j hj hx => by
    have := h7 j hx
    rcases g1 j hj with h | h <;> omega
  have g8 : ∀ j ∈ G', j ∉ F8 := fun j hj hx => by
    have := h8 j hx
    rcases g1 j hj with h | h <;> omega
  have r7 : ∀ j ∈ H', j ∉ F7 := fun j hj hx => by
    have := h7 j hx
    rcases r1 j hj with h | h <;> omega
  have r8 : ∀ j ∈ H', j ∉ F8 := fun j hj hx => by
    have := h8 j hx
    rcases r1 j hj with h | h <;> omega
  refine St.add (G := G') (H := H') ((((hq.keeps hkx gH).keeps hks (by simp)).keeps hk7 g7).keeps hk8 g8) (((hr.keeps hks (by simp)).keeps hk7 r7).keeps hk8 r8) s3 s4 s5 s6 s7 s8 hf (fun j hj => ?_) (fun j hj => ?_) (fun j hj hx => ?_) ?_
  · rcases g1 j hj with h | h
    · exact s9 j h.1
    · omega
  · rcases r1 j hj with h | h
    · exact s10 j h.1
    · omega
  · rcases r1 j hx with h | h
    · exact gH j hj h.1
    · have := hq.flt j hj
      omega
  · exact (((((s12.trans kab (by simp)).trans hkq (fun j hj => .inr (s9 j hj))).trans hkx (fun j hj => .inr (s10 j hj))).trans hks (by simp)).trans hk7 (fun j hj => .inr (by have := h7 j hj; omega))).trans hk8 (fun j hj => .inr (by have := h8 j hj; omega))
end Go.Proofs.Ytnijemjfbghhmaa
