/- The laws' known by contract. -/
import Derived.Test.YtkeffebcmajhmaaPoll12
namespace Go.Proofs.Ytkeffebcmajhmaa
open Go.RowKit
set_option linter.unusedVariables false
set_option linter.unusedSimpArgs false
def pkD : Wd := ⟨-1, true, false, false, 0, 0⟩
def pkE : Ev := ((0, 1), -1, true, false)
theorem pk1 : putL [] (-1) = [(1, true, -1)] ∧ freeAt [] = 0 ∧ putG [] = 1 := ⟨rfl, rfl, rfl⟩
theorem pk2 : (connectN (newN 2) 1).2 = (0, 0) := rfl
theorem pk3 : evsP (connectN (newN 2) 1).1 [(1, true, -1)] [((0, 1), pkD)] = [pkE] := rfl
theorem pk4 : toldP (connectN (newN 2) 1).1 [((0, 1), pkD)] = [((0, 1), pkD)] := rfl
theorem pk5 : pickE [] [pkE] = [pkE] := rfl
theorem pk6 : pickE [5, -1] [pkE] = [pkE] := rfl
set_option maxRecDepth 100000 in
set_option maxHeartbeats 4000000 in
theorem pknown_any (w : World) : Calls Try.prog 56 #[] w fun e w' => e = .returned (.bool true) ∧ Keeps [] w w' := by
  go_enter Try.func56, Try.ntmps56
  go_wp2_with fail
  refine (nnew_ok 2 w (by omega) (by omega)).mono ?_
  rintro e w1 ⟨rfl, hn1, hk1⟩
  go_wp2_with fail
  refine (ponew_S w w1 w.heap.size _ _ hn1 (by simp) hk1).mono ?_
  rintro e w2 ⟨pb, rfl, hs2⟩
  have c2 := hs2.cell
  clear hn1 hk1
  go_wp2_with fail
  refine (watch_S hs2 (-1) true false false (.inl rfl) (by simp) (by simp) (by simp) (by simp)).mono ?_
  rw [pk1.1, pk1.2.1, pk1.2.2]
  rintro e w3 ⟨rfl, hs3⟩
  replace hs3 : PS w w3 pb w.heap.size (newN 2) [(1, true, -1)] [((0, 1), pkD)] [] [] := hs3
  have c3 := hs3.cell
  have hs3a := hs3.aside ((Keeps.refl [] w3).alloc (.cells #[.int .i64 0, .int .i64 1] 30)) (g := w3.heap.size) (i := 0) (v := .int .i64 0) (Nat.le_refl _) (by simp)
  have hs3' : PS w (w3.alloc (.cells #[.int .i64 0, .int .i64 1] 30)) pb w.heap.size (newN 2) [(1, true, -1)] [((0, 1), pkD)] [] [((w3.heap.size, 1), .int .i64 1), ((w3.heap.size, 0), .int .i64 0)] := by
    obtain ⟨F, h1, h2, h3, h4, h5⟩ := hs3a
    refine ⟨F, h1, h2, h3, h4, fun c hc => ?_⟩
    have h6 := h5 ((w3.heap.size, 0), .int .i64 0) (by simp)
    simp only [List.mem_cons, List.not_mem_nil, or_false] at hc
    rcases hc with rfl | rfl
    · exact ⟨h6.1, by simp⟩
    · exact h6
  have c3' := hs3'.cell
  clear hs2 c2
  obtain ⟨Fn, hn, hfn, hst⟩ := hs3'.net
  have HST := hid hst
  clear hst
  go_wp2_with fail
  refine (connect_any _ Fn _ 0 1 _ hn (okN_new 2 (by omega) (by omega)) (by omega)).mono ?_
  rw [show (connectN (newN 2) 1).2.1 = 0 from rfl, show (connectN (newN 2) 1).2.2 = 0 from rfl]
  rintro e w4 ⟨rfl, hd4⟩
  have hs4 := HST.out _ _ hd4
  have c4 := hs4.cell
  clear hd4 hn hs3 hs3a hs3' c3 c3'
  go_wp2_with fail
  refine (wait_S hs4 (Keeps.refl [] _) (by simp) _ [] (fun F hF => CellsIn.nil _ _)).mono ?_
  rintro e w5 ⟨v5, rfl, hs5⟩
  go_wp2_with fail
  refine (wait_S hs5 ((Keeps.refl [] w5).alloc _) (by simp) _ [5, -1] (fun F hF => ?_)).mono ?_
  · have h := CellsIn.newM w5 F [.int .i64 5, .int .i64 (-1)] 3 (0, 0) (fun k hk => (hF k hk).2) (by simp)
    simpa using h
  rintro e w6 ⟨v6, rfl, hs6⟩
  rw [pk4] at hs5 hs6
  rw [pk3, pk5] at hs5 hs6
  rw [pk4] at hs6
  rw [pk6] at hs6
  have d0 := hs6.at_ (c := ((w3.heap.size, 0), .int .i64 0)) (by simp)
  have d1 := hs6.at_ (c := ((w3.heap.size, 1), .int .i64 1)) (by simp)
  simp only at d0 d1
  have r5 := hs6.row (r := (v5, [pkE])) (by simp)
  have r6 := hs6.row (r := (v6, [pkE])) (by simp)
  have kw := hs6.keepsW
  have R5 := hid r5
  have R6 := hid r6
  have KW := hid kw
  clear hs5 hs6 hs4 c4 r5 r6 kw HST hfn
  have hw : Row (w6.alloc (.cells #[.int .i64 0, .int .i64 1, .int .i64 (-1), .bool true, .bool false] 95)) 95 5 (.slice (some ⟨w6.heap.size, 0, none⟩) 1 1) 1 (evsV [pkE]) := ⟨rfl, .inr ⟨_, 0, 1, _, rfl, heap_alloc_new _ _, by omega, by simp [maxLen], by simp, rfl⟩⟩
  have EW := hid (Row.evIn (F := []) (l := [pkE]) hw (by simp))
  clear hw
  have kal := (Keeps.refl [] w6).alloc (.cells #[.int .i64 0, .int .i64 1, .int .i64 (-1), .bool true, .bool false] 95)
  have KAL := hid kal
  clear kal
  go_wp2_with fail
  refine (events_any _ _ [pkE] [pkE] _ (R5.out.keeps KAL.out (by simp)) EW.out).mono ?_
  rintro e w7 ⟨rfl, hk7⟩
  rw [show decide ([pkE] = [pkE]) = true from by simp]
  go_wp2_with fail
  refine (events_any _ _ [pkE] [pkE] _ ((R6.out.keeps KAL.out (by simp)).keeps hk7 (by simp)) (EW.out.keeps hk7 (by simp))).mono ?_
  rintro e w8 ⟨rfl, hk8⟩
  rw [show decide ([pkE] = [pkE]) = true from by simp]
  go_wp2_with fail
  go_ret
  exact ⟨rfl, ((KW.out.trans KAL.out (by simp)).trans hk7 (by simp)).trans hk8 (by simp)⟩
end Go.Proofs.Ytkeffebcmajhmaa
