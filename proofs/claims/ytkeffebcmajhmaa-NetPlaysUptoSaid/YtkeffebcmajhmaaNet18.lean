/- The net's laws: 'known' by contract. -/
import Derived.Test.YtkeffebcmajhmaaNet17
namespace Go.Proofs.Ytkeffebcmajhmaa
open Go.RowKit
set_option linter.unusedVariables false
def knC (w o h : Bool) (i t : List Int) (r : Int) (k : Bool) : Cn := ⟨w, o, false, 3, h, false, k, i, 0, r, 0, [], t⟩
def knN (w o h : Bool) (i t : List Int) (r : Int) (k : Bool) (q : List Nat) (p : Int) : NS := ⟨2, [knC w o h i t r k], q, false, 0, 1, p⟩
theorem kn1 : connectN (newN 2) 3 = (knN true false false [] [] 0 false [0] 0, 0, 0) := rfl
theorem kn2 : sendN (knN true false false [] [] 0 false [0] 0) 0 [[97], [98]] = (knN true false false [97, 98] [] 1 false [0] 0, 2, 0) := rfl
theorem kn3 : acceptN (knN true false false [97, 98] [] 1 false [0] 0) = (knN false true false [97, 98] [] 1 true [] 1, 0, 3, 0) := rfl
theorem kn4 : readN (knN false true false [97, 98] [] 1 true [] 1) 0 9 = (knN false true false [] [97, 98] 1 true [] 1, [97, 98], 0) := rfl
theorem kn5 : readN (knN false true false [] [97, 98] 1 true [] 1) 0 9 = (knN false true false [] [97, 98] 1 true [] 1, [], 4) := rfl
theorem kn6 : halfN (knN false true false [] [97, 98] 1 true [] 1) 0 = (knN false true true [] [97, 98] 2 true [] 1, 0) := rfl
theorem kn7 : readN (knN false true true [] [97, 98] 2 true [] 1) 0 9 = (knN false true true [] [97, 98] 2 true [] 1, [], 0) := rfl
theorem ko1 : OkN (knN true false false [] [] 0 false [0] 0) 1 := okN_connect (okN_new 2 (by omega) (by omega)) 3 (by omega)
theorem ko2 : OkN (knN true false false [97, 98] [] 1 false [0] 0) 2 := okN_send ko1 0 [[97], [98]]
theorem ko3 : OkN (knN false true false [97, 98] [] 1 true [] 1) 2 := okN_accept ko2
theorem ko4 : OkN (knN false true false [] [97, 98] 1 true [] 1) 1026 := okN_read ko3 0 9
theorem ko6 : OkN (knN false true true [] [97, 98] 2 true [] 1) 1027 := okN_half ko4 0
set_option maxHeartbeats 1000000 in
theorem nknown_any (w : World) : Calls Try.prog 33 #[] w fun e w' => e = .returned (.bool true) ∧ Keeps [] w w' := by
  go_enter Try.func33, Try.ntmps33
  go_wp2_with fail
  refine (nnew_S 2 w _ (Keeps.refl [] w) (by omega) (by omega)).mono ?_
  rintro e w1 ⟨n, rfl, hs1⟩
  go_wp2_with fail
  refine (connect_S hs1 (okN_new 2 (by omega) (by omega)) (by omega) 3).mono ?_
  rw [kn1]
  rintro e w2 ⟨rfl, hs2⟩
  have kc := fun (w : World) (C : Array Value) (n c H : Nat) (hH : w.heap.size = H) => run_convert_const (P := Try.prog) w 66 5 C n c H Try.underlying66 Try.underlying5 hH
  clear hs1
  go_wp2_with fail
  refine (send_S hs2 ((((Keeps.refl [] w2).alloc _).alloc _).alloc _) ko1 (by omega) 0 _ [(.slice (some ⟨w2.heap.size, 0, none⟩) 1 1, [97]), (.slice (some ⟨w2.heap.size + 1, 0, none⟩) 1 1, [98])] (fun F hF => ⟨?_, ?_⟩)).mono ?_
  · have h := CellsIn.newM ((w2.alloc (.cells #[.int .u8 97] 5 (1, 2))).alloc (.cells #[.int .u8 98] 5 (1, 2))) F [.slice (some ⟨w2.heap.size, 0, none⟩) 1 1, .slice (some ⟨w2.heap.size + 1, 0, none⟩) 1 1] 66 (0, 0) (fun k hk => by have := hF k hk; simp; omega) (by simp)
    simpa using h
  · intro r hr0
    have h1 := (CellsIn.newM w2 F (bytesV [97]) 5 (1, 2) (fun k hk => (hF k hk).2) (by simp [bytesV])).keeps (((Keeps.refl [] _).alloc (.cells #[.int .u8 98] 5 (1, 2))).alloc (.cells #[.slice (some ⟨w2.heap.size, 0, none⟩) 1 1, .slice (some ⟨w2.heap.size + 1, 0, none⟩) 1 1] 66)) (by simp)
    have h2 := (CellsIn.newM (w2.alloc (.cells #[.int .u8 97] 5 (1, 2))) F (bytesV [98]) 5 (1, 2) (fun k hk => by have := hF k hk; simp; omega) (by simp [bytesV])).keeps ((Keeps.refl [] _).alloc (.cells #[.slice (some ⟨w2.heap.size, 0, none⟩) 1 1, .slice (some ⟨w2.heap.size + 1, 0, none⟩) 1 1] 66)) (by simp)
    simp only [List.mem_cons, List.not_mem_nil, or_false] at hr0
    rcases hr0 with rfl | rfl
    · simpa [bytesV] using h1
    · simpa [bytesV] using h2
  simp only [List.map_cons, List.map_nil]
  rw [kn2]
  rintro e w3 ⟨rfl, hs3⟩
  clear hs2
  go_wp2_with fail
  refine (accept_S hs3 ko2 (by omega)).mono ?_
  rw [kn3]
  rintro e w4 ⟨rfl, hs4⟩
  clear hs3
  go_wp2_with fail
  refine (read_S hs4 ko3 (by omega) 0 9 (by omega)).mono ?_
  rw [kn4]
  rintro e w5 ⟨v5, rfl, hs5⟩
  clear hs4
  go_wp2_with fail
  refine (read_S hs5 ko4 (by omega) 0 9 (by omega)).mono ?_
  rw [kn5]
  rintro e w6 ⟨v6, rfl, hs6⟩
  clear hs5
  go_wp2_with fail
  refine (half_S hs6 ko4 (by omega) 0).mono ?_
  rw [kn6]
  rintro e w7 ⟨rfl, hs7⟩
  clear hs6
  go_wp2_with fail
  refine (read_S hs7 ko6 (by omega) 0 9 (by omega)).mono ?_
  rw [kn7]
  rintro e w8 ⟨v8, rfl, hs8⟩
  clear hs7
  go_wp2_with fail
  refine (nsame_any _ _ [97, 98] [97, 98] _ ?_ ?_).mono ?_
  · have := hs8.row (r := (v5, [97, 98])) (by simp)
    exact (this.cellsIn (by simp)).keeps ((Keeps.refl [] _).alloc _) (by simp)
  · have h := CellsIn.newM w8 [] (bytesV [97, 98]) 5 (2, 3) (by simp) (by simp [bytesV])
    simpa [bytesV] using h
  rintro e w9 ⟨rfl, hk9⟩
  have hsb : sameB [97, 98] [97, 98] = true := rfl
  go_wp2_with fail
  go_ret
  exact ⟨rfl, (hs8.keepsW.alloc _).trans hk9 (by simp)⟩
end Go.Proofs.Ytkeffebcmajhmaa
