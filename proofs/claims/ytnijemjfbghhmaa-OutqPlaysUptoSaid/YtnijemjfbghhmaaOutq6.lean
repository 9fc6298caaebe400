/- 'known' of the queue's laws. -/
import Derived.Test.YtnijemjfbghhmaaOutq5
namespace Go.Proofs.Ytnijemjfbghhmaa
open Go.RowKit
theorem QRep.flt {w : World} {a : Nat} {F : List Nat} {bs : List Int} {ps : List (Int × Int)} {last : Int} (h : QRep w a F bs ps last) : ∀ k ∈ F, k < w.heap.size := by
  obtain ⟨_, _, _, _, _, h4, _⟩ := h
  exact h4
theorem Later.from {F F' : List Nat} {w : World} {B : Nat} (h : Later F w F') (hF : ∀ k ∈ F, B ≤ k) (hB : B ≤ w.heap.size) : ∀ k ∈ F', B ≤ k := fun k hk => by
  rcases h k hk with h | h
  · exact hF k h
  · exact Nat.le_trans hB h
theorem Row.ints2 {w : World} {v : Value} {n : Nat} {xs : List Int} (h : Row w 3 1 v n (intsV xs)) : CellsIn w [] v (intsV xs) := h.cellsIn (by simp)
set_option maxRecDepth 100000 in
set_option maxHeartbeats 1000000 in
theorem known_any (w : World) : Calls Try.prog 15 #[] w fun e w' => e = .returned (.bool true) ∧ Keeps [] w w' := by
  go_enter Try.func15, Try.ntmps15
  go_wp2_with fail
  refine (newq _).mono ?_
  rintro e w1 ⟨rfl, hq, hk⟩
  obtain ⟨a, ha⟩ : ∃ a, w.heap.size = a := ⟨_, rfl⟩
  rw [ha] at hq
  rw [ha]
  have hF : ∀ k ∈ [a], w.heap.size ≤ k := by simp; omega
  clear ha
  generalize hFe : [a] = F at hq hF
  clear hFe
  have hsz1 := hk.size
  have kc := fun (w : World) (C : Array Value) (n c H : Nat) (hH : w.heap.size = H) => run_convert_const (P := Try.prog) w 24 5 C n c H Try.underlying24 Try.underlying5 hH
  go_wp2_with fail
  have f1 := hq.flt
  refine (add_any a F [] [] 0 _ [(.slice (some ⟨w1.heap.size, 0, none⟩) 2 2, [97, 98]), (.slice (some ⟨w1.heap.size + 1, 0, none⟩) 1 1, [99])] _ ?_ ?_ ?_ (by omega) (by omega) (by simp [flat]) (by simp)).mono ?_
  · exact hq.keeps ((((Keeps.refl [] w1).alloc _).alloc _).alloc _) (by simp)
  · have h := CellsIn.newM ((w1.alloc (.cells #[.int .u8 97, .int .u8 98] 5 (2, 3))).alloc (.cells #[.int .u8 99] 5 (1, 2))) F [.slice (some ⟨w1.heap.size, 0, none⟩) 2 2, .slice (some ⟨w1.heap.size + 1, 0, none⟩) 1 1] 24 (0, 0) (fun x hx => by have := f1 x hx; simp; omega) (by simp)
    simpa using h
  · intro r hr0
    have h1 := (CellsIn.newM w1 F (bytesV [97, 98]) 5 (2, 3) f1 (by simp [bytesV])).keeps (((Keeps.refl [] _).alloc (.cells #[.int .u8 99] 5 (1, 2))).alloc (.cells #[.slice (some ⟨w1.heap.size, 0, none⟩) 2 2, .slice (some ⟨w1.heap.size + 1, 0, none⟩) 1 1] 24)) (by simp)
    have h2 := (CellsIn.newM (w1.alloc (.cells #[.int .u8 97, .int .u8 98] 5 (2, 3))) F (bytesV [99]) 5 (1, 2) (fun x hx => by have := f1 x hx; simp; omega) (by simp [bytesV])).keeps ((Keeps.refl [] _).alloc (.cells #[.slice (some ⟨w1.heap.size, 0, none⟩) 2 2, .slice (some ⟨w1.heap.size + 1, 0, none⟩) 1 1] 24)) (by simp)
    simp only [List.mem_cons, List.not_mem_nil, or_false] at hr0
    rcases hr0 with rfl | rfl
    · simpa [bytesV] using h1
    · simpa [bytesV] using h2
  rintro e w2 ⟨rfl, ⟨F2, hq2, hl2⟩, hk2⟩
  have hk2' : Keeps [] w w2 := (((hk.alloc _).alloc _).alloc _).trans hk2 (fun x hx => .inr (hF x hx))
  have hF2 := hl2.from hF (by simp; omega)
  clear hq hk hk2 hl2 hF f1
  have hsz2 := hk2'.size
  go_wp2_with fail
  refine (add_any a F2 [97, 98, 99] [(1, 3)] 1 _ [] _ hq2 (CellsIn.nil _ _) (by simp) (by omega) (by omega) (by simp [flat]) (by simp)).mono ?_
  rintro e w3 ⟨rfl, ⟨F3, hq3, hl3⟩, hk3⟩
  have hk3' : Keeps [] w w3 := hk2'.trans hk3 (fun x hx => .inr (hF2 x hx))
  have hF3 := hl3.from hF2 hsz2
  clear hq2 hk2' hk3 hl3 hF2
  have hsz3 := hk3'.size
  have f3 := hq3.flt
  go_wp2_with fail
  refine (add_any a F3 [97, 98, 99] [(1, 3), (2, 0)] 2 _ [(.slice (some ⟨w3.heap.size, 0, none⟩) 1 1, [100])] _ ?_ ?_ ?_ (by omega) (by omega) (by simp [flat]) (by simp)).mono ?_
  · exact hq3.keeps (((Keeps.refl [] w3).alloc _).alloc _) (by simp)
  · have h := CellsIn.newM (w3.alloc (.cells #[.int .u8 100] 5 (1, 2))) F3 [.slice (some ⟨w3.heap.size, 0, none⟩) 1 1] 24 (0, 0) (fun x hx => by have := f3 x hx; simp; omega) (by simp)
    simpa using h
  · intro r hr0
    simp only [List.mem_cons, List.not_mem_nil, or_false] at hr0
    subst hr0
    have h1 := (CellsIn.newM w3 F3 (bytesV [100]) 5 (1, 2) f3 (by simp [bytesV])).alloc (.cells #[.slice (some ⟨w3.heap.size, 0, none⟩) 1 1] 24)
    simpa [bytesV] using h1
  rintro e w4 ⟨rfl, ⟨F4, hq4, hl4⟩, hk4⟩
  have hk4' : Keeps [] w w4 := ((hk3'.alloc _).alloc _).trans hk4 (fun x hx => .inr (hF3 x hx))
  have hF4 := hl4.from hF3 (by simp; omega)
  clear hq3 hk3' hk4 hl4 hF3
  have hsz4 := hk4'.size
  go_wp2_with fail
  refine (done_any a F4 [97, 98, 99, 100] [(1, 3), (2, 0), (3, 1)] 3 3 _ hq4 (by simp) (by simp) (by simp [Sized])).mono ?_
  rintro e w5 ⟨⟨v5, rfl, hv5, hvb5⟩, ⟨F5, hq5, hl5, hn5⟩, hk5⟩
  have hk5' : Keeps [] w w5 := hk4'.trans hk5 (fun x hx => .inr (hF4 x hx))
  have hq5' : QRep w5 a F5 [100] [(3, 1)] 3 := hq5
  have hv5' : Row w5 3 1 v5 2 (intsV [1, 2]) := hv5
  clear hq4 hk4' hk5 hl5 hn5 hq5 hv5
  have hi : ∀ xs, sameB xs xs = true := sameB_self
  go_wp2_with fail
  refine (ints_any _ _ [1, 2] [1, 2] _ ?_ ?_).mono ?_
  · exact hv5'.ints2.alloc _
  · have h := CellsIn.newM w5 [] (intsV [1, 2]) 3 (0, 0) (by simp) (by simp [intsV])
    simpa [intsV] using h
  rintro e w6 ⟨rfl, hk6⟩
  have hk6' : Keeps [] w5 w6 := ((Keeps.refl [] w5).alloc _).trans hk6 (by simp)
  have hq6 := hq5'.keeps hk6' (by simp)
  go_wp2_with fail
  refine (left_any a F5 [100] [(3, 1)] 3 _ hq6 (by simp)).mono ?_
  rintro e w7 ⟨⟨v7, rfl, hv7, hvb7⟩, hk7⟩
  have hv7' : Row w7 3 1 v7 1 (intsV [3]) := hv7
  have hq7 := hq6.keeps hk7 (by simp)
  go_wp2_with fail
  refine (ints_any _ _ [3] [3] _ ?_ ?_).mono ?_
  · exact hv7'.ints2.alloc _
  · have h := CellsIn.newM w7 [] (intsV [3]) 3 (0, 0) (by simp) (by simp [intsV])
    simpa [intsV] using h
  rintro e w8 ⟨rfl, hk8⟩
  have hk8' : Keeps [] w7 w8 := ((Keeps.refl [] w7).alloc _).trans hk8 (by simp)
  have hq8 := hq7.keeps hk8' (by simp)
  go_wp2_with fail
  refine (next_any a F5 [100] [(3, 1)] 3 5 _ hq8 (by simp)).mono ?_
  rintro e w9 ⟨v9, rfl, hv9, hvb9, hk9⟩
  have hv9' : Row w9 5 1 v9 1 (bytesV [100]) := hv9
  go_wp2_with fail
  refine (same_any _ _ [100] [100] _ ?_ ?_).mono ?_
  · exact (hv9'.cellsIn (F := []) (by simp)).alloc _
  · have h := CellsIn.newM w9 [] (bytesV [100]) 5 (1, 2) (by simp) (by simp [bytesV])
    simpa [bytesV] using h
  rintro e w10 ⟨rfl, hk10⟩
  go_wp2
  go_ret
  refine ⟨rfl, ?_⟩
  exact ((((((hk5'.trans hk6' (by simp)).trans hk7 (by simp)).trans hk8' (by simp)).trans hk9 (by simp)).alloc _).trans hk10 (by simp))
end Go.Proofs.Ytnijemjfbghhmaa
