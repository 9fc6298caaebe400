/- The walk of PollEdges. -/
import Derived.Test.YtkeffebcmajhmaaEdgeN
import Derived.BigQuiet
namespace Go.Proofs.Ytkeffebcmajhmaa
open Go.RowKit
set_option linter.unusedVariables false
set_option maxRecDepth 100000 in
set_option maxHeartbeats 1000000 in
theorem pollEdges_out (w : World) (pv : Value) (zs : List Int) (hz : CellsIn w [] pv (zs.map (.int .i64))) (edge : Bool) (h : 60 < zs.length) :
    Calls Try.prog 13 #[pv, .bool edge] w fun e w' => e = .returned (.bool true) ∧ Below w.heap.size w w' := by
  obtain ⟨A, c, rfl, h1, h2⟩ := hz.shape
  simp only [List.length_map] at h1 ⊢
  clear hz
  have h4 : (60 : Int) < zs.length := by omega
  go_enter Try.func13, Try.ntmps13
  go_wp2_with (go_at_call 56; refine (pknown_any _).mono ?_; rintro e w5 ⟨rfl, hk5⟩)
  go_ret
  exact ⟨rfl, hk5.below (Nat.le_refl _) (by simp)⟩
set_option maxRecDepth 100000 in
set_option maxHeartbeats 8000000 in
theorem pollEdges_in (w : World) (pv : Value) (zs : List Int) (hz : CellsIn w [] pv (zs.map (.int .i64))) (edge : Bool) (hl : zs.length ≤ 60) :
    Calls Try.prog 13 #[pv, .bool edge] w fun e w' => e = .returned (.bool true) ∧ Below w.heap.size w w' := by
  have HZ := hid hz
  obtain ⟨A, c, rfl, hc1, hc2⟩ := hz.shape
  simp only [List.length_map] at hc1 HZ ⊢
  clear hz
  have a3 : ¬ (60 : Int) < zs.length := by omega
  have heq : (Op.equalIn 10000 95 (evA edE) (evA edE)) = (Op.equal 95 (evA edE) (evA edE)) := rfl
  have hrun : ∀ w : World, (Op.equalIn 10000 95 (evA edE) (evA edE)).run Try.prog w = .ok true w := fun w => by
    have h := run_eqEv edE edE w
    rw [decide_eq_true rfl] at h
    exact h
  unfold evA edE at hrun
  simp only at hrun
  clear heq
  go_enter Try.func13, Try.ntmps13
  go_wp2_with fail
  refine (nnew_ok 1 w (by omega) (by omega)).mono ?_
  rintro e w1 ⟨rfl, hn1, hk1⟩
  go_wp2_with fail
  refine (ponew_S w w1 w.heap.size _ _ hn1 (by simp) hk1).mono ?_
  rintro e w2 ⟨pb, rfl, hs2⟩
  have c2 := hs2.cell
  obtain ⟨nb, hnb⟩ : ∃ nb, w.heap.size = nb := ⟨_, rfl⟩
  rw [hnb] at hs2 c2
  have HS2 := hid hs2
  have HNB := hid hnb
  clear hs2 hn1 hk1 hnb
  have O1 := okN_connect (okN_new 1 (by omega) (by omega)) 1 (by omega)
  have O2 := okN_accept O1
  rw [e2] at O2
  have HO1 := hid O1
  have HO2 := hid O2
  clear O1 O2
  go_wp2_with fail
  refine (connect_P HS2.out (okN_new 1 (by omega) (by omega)) (by omega) 1).mono ?_
  rw [e1]
  rintro e w3 ⟨rfl, hs3⟩
  have c3 := hs3.cell
  have HS3 := hid hs3
  clear hs3 HS2 c2
  go_wp2_with fail
  refine (accept_P HS3.out HO1.out (by omega)).mono ?_
  rw [e2]
  rintro e w4 ⟨rfl, hs4⟩
  have c4 := hs4.cell
  have HS4 := hid hs4
  clear hs4 HS3 c3
  go_wp2_with fail
  refine (watch_S HS4.out 0 true false edge (.inr rfl) (by simp) (by simp) (by simp) (by simp)).mono ?_
  rw [show freeAt [] = 0 from rfl, show putG [] = 1 from rfl, show putL [] 0 = edL from rfl]
  rintro e w5 ⟨rfl, hs5⟩
  replace hs5 : PS w w5 pb nb (eN [] 0 []) edL [((0, 1), edD edge (if edge = true then 0 else 0))] [] [] := by simpa [edD] using hs5
  have hs6 := hs5.handle 0 1
  have HS5 := hid hs5
  have HS6 := hid hs6
  clear hs5 hs6 HS4 c4
  go_wp2_with fail
  clear HS5
  go_loopw [14, 15, 16, 17, 18] (fun s k _ _ _ wr => ∃ (j : Nat) (inn t : List Int) (r : Int), j ≤ zs.length ∧ k = .int .i64 j ∧ s = .bool (decide (0 < inn.length)) ∧ inn.length ≤ j ∧ PS w wr pb nb (eN inn r t) edL [((0, 1), edD edge (if edge = true then r else 0))] [] [((w5.heap.size, 1), .int .i64 1), ((w5.heap.size, 0), .int .i64 0)] ∧ OkN (eN inn r t) ((j * 2048 + 1 : Nat) : Int)) (fun _ k _ _ _ _ => zs.length - (intOf k).toNat)
  case atStart => exact ⟨0, [], [], 0, Nat.zero_le _, rfl, rfl, Nat.le_refl _, HS6.out.next (by (repeat (first | exact Keeps.refl _ _ | apply Keeps.drewN | apply Keeps.drew | apply Keeps.alloc))), HO2.out.mono (by omega)⟩
  case round =>
    clear HS6 HO1 HO2
    obtain ⟨j, inn, t, r, hj, rfl, rfl, hil, hS, hO⟩ := hrel
    have HS := hid hS
    have HO := hid hO
    have c0 := hS.cell
    clear hS hO
    by_cases hlt : j < zs.length
    · obtain ⟨pb', po, rfl, -, hc⟩ := HZ.out.at_ (by simp; omega)
      obtain ⟨z, hzj⟩ : ∃ z, zs[j]? = some z := ⟨zs[j], List.getElem?_eq_getElem hlt⟩
      have HC0 := hid (hc j (.int .i64 z) (by simp [hzj]))
      have z0 := cell_keep HS.out.keepsW (by simp) HC0.out
      have hji : (j : Int) < zs.length := by omega
      obtain ⟨y, hy⟩ : ∃ y, bits BinOp.and IntKind.i64 z 1 = y := ⟨_, rfl⟩
      obtain ⟨u, hu⟩ : ∃ u, bits BinOp.and IntKind.i64 z 2 = u := ⟨_, rfl⟩
      clear hc hzj
      have hey : (y == 1) = true ∨ (y == 1) = false := by cases (y == 1) <;> simp
      have heu : (u == 2) = true ∨ (u == 2) = false := by cases (u == 2) <;> simp
      have hi0 : inn.length < 1024 := by omega
      obtain ⟨sb, hsb⟩ : ∃ sb, decide (0 < inn.length) = sb := ⟨_, rfl⟩
      rw [hsb]
      have HSB := hid hsb
      clear hsb
      rcases hey with hey | hey <;> rcases heu with heu | heu <;> cases sb <;> cases edge
      · as_aux_lemma =>
          have hs : PS w wr pb nb (eN inn r t) edL [((0, 1), edD false 0)] [] [((w5.heap.size, 1), .int .i64 1), ((w5.heap.size, 0), .int .i64 0)] := by simpa using HS.out
          replace HS := hid hs
          clear hs
          have O3 := okN_send HO.out 0 [[1]]
          rw [eN_send inn r t hi0] at O3
          have HO3 := hid O3
          clear O3
          go_wp2_with fail
          refine (send_P HS.out (((Keeps.refl [] wr).alloc _).alloc _) HO.out (by omega) 0 _ _ (fun F hF => rows_byte 1 hF)).mono ?_
          simp only [List.map_cons, List.map_nil]
          rw [eN_send inn r t hi0]
          rintro e w9 ⟨rfl, hs5⟩
          have hci := hs5.cell
          have HS5 := hid hs5
          clear hs5 HS c0
          go_wp2_with fail
          refine (wait_S HS5.out (Keeps.refl [] _) (by simp [edL]) _ [] (fun F hF => CellsIn.nil _ _)).mono ?_
          rw [ed_evs, ed_toldP, ed_cameF, if_neg (by simp), if_pos rfl]
          rintro e w6 ⟨v, rfl, hs6⟩
          replace hs6 : PS w w6 pb nb (eN (inn ++ [1]) (r + 1) t) edL [((0, 1), edD false 0)] [(v, [edE])] [((w5.heap.size, 1), .int .i64 1), ((w5.heap.size, 0), .int .i64 0)] := by simpa [pickE, pickGo, pickI] using hs6
          have hev := hs6.row (r := (v, [edE])) (by simp)
          simp only at hev
          obtain ⟨EA, ec, rfl, he1, he2⟩ := hev.shape
          obtain ⟨eb, eo, rfl, -, hec⟩ := hev.at_ (by simp)
          obtain ⟨d0, d1, d2, d3, d4⟩ := hec 0 edE rfl
          obtain ⟨k0, k1⟩ := hs6.hcells
          have hci6 := hs6.cell
          simp [edE] at d0 d1 d2 d3 d4
          simp only [List.length_cons, List.length_nil] at he1 ⊢
          have HS6 := hid hs6.less
          have z6 := cell_keep HS6.out.keepsW (by simp) HC0.out
          clear hs6 hev hec
          go_wp2_with fail
          go_quiet (fail)
          go_wp2_with fail
          obtain ⟨x, hx⟩ := eN_read (inn ++ [1]) (r + 1) t (by simp; omega)
          have OR := okN_read HO3.out 0 2000
          rw [hx] at OR
          have HOR := hid OR
          clear OR
          refine (read_P (HS6.out.next (by (repeat (first | exact Keeps.refl _ _ | apply Keeps.drewN | apply Keeps.drew | apply Keeps.alloc)))) HO3.out (by omega) 0 2000 (by omega)).mono ?_
          rw [hx]
          rintro e w7 ⟨v7, rfl, hs7⟩
          have HS7 := hid hs7
          clear hs7
          go_wp2_with fail
          go_roundw
          case rel => exact ⟨j + 1, [], t ++ (inn ++ [1]), (r + 1), by omega, by go_num, rfl, by simp, by simpa using HS7.out, HOR.out.mono (by omega)⟩
          case measure => simp [intOf] <;> omega
      · as_aux_lemma =>
          have hs : PS w wr pb nb (eN inn r t) edL [((0, 1), edD true r)] [] [((w5.heap.size, 1), .int .i64 1), ((w5.heap.size, 0), .int .i64 0)] := by simpa using HS.out
          replace HS := hid hs
          clear hs
          have O3 := okN_send HO.out 0 [[1]]
          rw [eN_send inn r t hi0] at O3
          have HO3 := hid O3
          clear O3
          go_wp2_with fail
          refine (send_P HS.out (((Keeps.refl [] wr).alloc _).alloc _) HO.out (by omega) 0 _ _ (fun F hF => rows_byte 1 hF)).mono ?_
          simp only [List.map_cons, List.map_nil]
          rw [eN_send inn r t hi0]
          rintro e w9 ⟨rfl, hs5⟩
          have hci := hs5.cell
          have HS5 := hid hs5
          clear hs5 HS c0
          go_wp2_with fail
          refine (wait_S HS5.out (Keeps.refl [] _) (by simp [edL]) _ [] (fun F hF => CellsIn.nil _ _)).mono ?_
          rw [ed_evs, ed_toldP, ed_cameT, if_pos ⟨rfl, rfl⟩, if_pos rfl]
          rintro e w6 ⟨v, rfl, hs6⟩
          replace hs6 : PS w w6 pb nb (eN (inn ++ [1]) (r + 1) t) edL [((0, 1), edD true (r + 1))] [(v, [edE])] [((w5.heap.size, 1), .int .i64 1), ((w5.heap.size, 0), .int .i64 0)] := by simpa [pickE, pickGo, pickI] using hs6
          have hev := hs6.row (r := (v, [edE])) (by simp)
          simp only at hev
          obtain ⟨EA, ec, rfl, he1, he2⟩ := hev.shape
          obtain ⟨eb, eo, rfl, -, hec⟩ := hev.at_ (by simp)
          obtain ⟨d0, d1, d2, d3, d4⟩ := hec 0 edE rfl
          obtain ⟨k0, k1⟩ := hs6.hcells
          have hci6 := hs6.cell
          simp [edE] at d0 d1 d2 d3 d4
          simp only [List.length_cons, List.length_nil] at he1 ⊢
          have HS6 := hid hs6.less
          have z6 := cell_keep HS6.out.keepsW (by simp) HC0.out
          clear hs6 hev hec
          go_wp2_with fail
          go_quiet (fail)
          go_wp2_with fail
          obtain ⟨x, hx⟩ := eN_read (inn ++ [1]) (r + 1) t (by simp; omega)
          have OR := okN_read HO3.out 0 2000
          rw [hx] at OR
          have HOR := hid OR
          clear OR
          refine (read_P (HS6.out.next (by (repeat (first | exact Keeps.refl _ _ | apply Keeps.drewN | apply Keeps.drew | apply Keeps.alloc)))) HO3.out (by omega) 0 2000 (by omega)).mono ?_
          rw [hx]
          rintro e w7 ⟨v7, rfl, hs7⟩
          have HS7 := hid hs7
          clear hs7
          go_wp2_with fail
          go_roundw
          case rel => exact ⟨j + 1, [], t ++ (inn ++ [1]), (r + 1), by omega, by go_num, rfl, by simp, by simpa using HS7.out, HOR.out.mono (by omega)⟩
          case measure => simp [intOf] <;> omega
      · as_aux_lemma =>
          have hs : PS w wr pb nb (eN inn r t) edL [((0, 1), edD false 0)] [] [((w5.heap.size, 1), .int .i64 1), ((w5.heap.size, 0), .int .i64 0)] := by simpa using HS.out
          replace HS := hid hs
          clear hs
          have O3 := okN_send HO.out 0 [[1]]
          rw [eN_send inn r t hi0] at O3
          have HO3 := hid O3
          clear O3
          go_wp2_with fail
          refine (send_P HS.out (((Keeps.refl [] wr).alloc _).alloc _) HO.out (by omega) 0 _ _ (fun F hF => rows_byte 1 hF)).mono ?_
          simp only [List.map_cons, List.map_nil]
          rw [eN_send inn r t hi0]
          rintro e w9 ⟨rfl, hs5⟩
          have hci := hs5.cell
          have HS5 := hid hs5
          clear hs5 HS c0
          go_wp2_with fail
          refine (wait_S HS5.out (Keeps.refl [] _) (by simp [edL]) _ [] (fun F hF => CellsIn.nil _ _)).mono ?_
          rw [ed_evs, ed_toldP, ed_cameF, if_neg (by simp), if_pos rfl]
          rintro e w6 ⟨v, rfl, hs6⟩
          replace hs6 : PS w w6 pb nb (eN (inn ++ [1]) (r + 1) t) edL [((0, 1), edD false 0)] [(v, [edE])] [((w5.heap.size, 1), .int .i64 1), ((w5.heap.size, 0), .int .i64 0)] := by simpa [pickE, pickGo, pickI] using hs6
          have hev := hs6.row (r := (v, [edE])) (by simp)
          simp only at hev
          obtain ⟨EA, ec, rfl, he1, he2⟩ := hev.shape
          obtain ⟨eb, eo, rfl, -, hec⟩ := hev.at_ (by simp)
          obtain ⟨d0, d1, d2, d3, d4⟩ := hec 0 edE rfl
          obtain ⟨k0, k1⟩ := hs6.hcells
          have hci6 := hs6.cell
          simp [edE] at d0 d1 d2 d3 d4
          simp only [List.length_cons, List.length_nil] at he1 ⊢
          have HS6 := hid hs6.less
          have z6 := cell_keep HS6.out.keepsW (by simp) HC0.out
          clear hs6 hev hec
          go_wp2_with fail
          go_quiet (fail)
          go_wp2_with fail
          obtain ⟨x, hx⟩ := eN_read (inn ++ [1]) (r + 1) t (by simp; omega)
          have OR := okN_read HO3.out 0 2000
          rw [hx] at OR
          have HOR := hid OR
          clear OR
          refine (read_P (HS6.out.next (by (repeat (first | exact Keeps.refl _ _ | apply Keeps.drewN | apply Keeps.drew | apply Keeps.alloc)))) HO3.out (by omega) 0 2000 (by omega)).mono ?_
          rw [hx]
          rintro e w7 ⟨v7, rfl, hs7⟩
          have HS7 := hid hs7
          clear hs7
          go_wp2_with fail
          go_roundw
          case rel => exact ⟨j + 1, [], t ++ (inn ++ [1]), (r + 1), by omega, by go_num, rfl, by simp, by simpa using HS7.out, HOR.out.mono (by omega)⟩
          case measure => simp [intOf] <;> omega
      · as_aux_lemma =>
          have hs : PS w wr pb nb (eN inn r t) edL [((0, 1), edD true r)] [] [((w5.heap.size, 1), .int .i64 1), ((w5.heap.size, 0), .int .i64 0)] := by simpa using HS.out
          replace HS := hid hs
          clear hs
          have O3 := okN_send HO.out 0 [[1]]
          rw [eN_send inn r t hi0] at O3
          have HO3 := hid O3
          clear O3
          go_wp2_with fail
          refine (send_P HS.out (((Keeps.refl [] wr).alloc _).alloc _) HO.out (by omega) 0 _ _ (fun F hF => rows_byte 1 hF)).mono ?_
          simp only [List.map_cons, List.map_nil]
          rw [eN_send inn r t hi0]
          rintro e w9 ⟨rfl, hs5⟩
          have hci := hs5.cell
          have HS5 := hid hs5
          clear hs5 HS c0
          go_wp2_with fail
          refine (wait_S HS5.out (Keeps.refl [] _) (by simp [edL]) _ [] (fun F hF => CellsIn.nil _ _)).mono ?_
          rw [ed_evs, ed_toldP, ed_cameT, if_pos ⟨rfl, rfl⟩, if_pos rfl]
          rintro e w6 ⟨v, rfl, hs6⟩
          replace hs6 : PS w w6 pb nb (eN (inn ++ [1]) (r + 1) t) edL [((0, 1), edD true (r + 1))] [(v, [edE])] [((w5.heap.size, 1), .int .i64 1), ((w5.heap.size, 0), .int .i64 0)] := by simpa [pickE, pickGo, pickI] using hs6
          have hev := hs6.row (r := (v, [edE])) (by simp)
          simp only at hev
          obtain ⟨EA, ec, rfl, he1, he2⟩ := hev.shape
          obtain ⟨eb, eo, rfl, -, hec⟩ := hev.at_ (by simp)
          obtain ⟨d0, d1, d2, d3, d4⟩ := hec 0 edE rfl
          obtain ⟨k0, k1⟩ := hs6.hcells
          have hci6 := hs6.cell
          simp [edE] at d0 d1 d2 d3 d4
          simp only [List.length_cons, List.length_nil] at he1 ⊢
          have HS6 := hid hs6.less
          have z6 := cell_keep HS6.out.keepsW (by simp) HC0.out
          clear hs6 hev hec
          go_wp2_with fail
          go_quiet (fail)
          go_wp2_with fail
          obtain ⟨x, hx⟩ := eN_read (inn ++ [1]) (r + 1) t (by simp; omega)
          have OR := okN_read HO3.out 0 2000
          rw [hx] at OR
          have HOR := hid OR
          clear OR
          refine (read_P (HS6.out.next (by (repeat (first | exact Keeps.refl _ _ | apply Keeps.drewN | apply Keeps.drew | apply Keeps.alloc)))) HO3.out (by omega) 0 2000 (by omega)).mono ?_
          rw [hx]
          rintro e w7 ⟨v7, rfl, hs7⟩
          have HS7 := hid hs7
          clear hs7
          go_wp2_with fail
          go_roundw
          case rel => exact ⟨j + 1, [], t ++ (inn ++ [1]), (r + 1), by omega, by go_num, rfl, by simp, by simpa using HS7.out, HOR.out.mono (by omega)⟩
          case measure => simp [intOf] <;> omega
      · as_aux_lemma =>
          have hs : PS w wr pb nb (eN inn r t) edL [((0, 1), edD false 0)] [] [((w5.heap.size, 1), .int .i64 1), ((w5.heap.size, 0), .int .i64 0)] := by simpa using HS.out
          replace HS := hid hs
          clear hs
          have O3 := okN_send HO.out 0 [[1]]
          rw [eN_send inn r t hi0] at O3
          have HO3 := hid O3
          clear O3
          go_wp2_with fail
          refine (send_P HS.out (((Keeps.refl [] wr).alloc _).alloc _) HO.out (by omega) 0 _ _ (fun F hF => rows_byte 1 hF)).mono ?_
          simp only [List.map_cons, List.map_nil]
          rw [eN_send inn r t hi0]
          rintro e w9 ⟨rfl, hs5⟩
          have hci := hs5.cell
          have HS5 := hid hs5
          clear hs5 HS c0
          go_wp2_with fail
          refine (wait_S HS5.out (Keeps.refl [] _) (by simp [edL]) _ [] (fun F hF => CellsIn.nil _ _)).mono ?_
          rw [ed_evs, ed_toldP, ed_cameF, if_neg (by simp), if_pos rfl]
          rintro e w6 ⟨v, rfl, hs6⟩
          replace hs6 : PS w w6 pb nb (eN (inn ++ [1]) (r + 1) t) edL [((0, 1), edD false 0)] [(v, [edE])] [((w5.heap.size, 1), .int .i64 1), ((w5.heap.size, 0), .int .i64 0)] := by simpa [pickE, pickGo, pickI] using hs6
          have hev := hs6.row (r := (v, [edE])) (by simp)
          simp only at hev
          obtain ⟨EA, ec, rfl, he1, he2⟩ := hev.shape
          obtain ⟨eb, eo, rfl, -, hec⟩ := hev.at_ (by simp)
          obtain ⟨d0, d1, d2, d3, d4⟩ := hec 0 edE rfl
          obtain ⟨k0, k1⟩ := hs6.hcells
          have hci6 := hs6.cell
          simp [edE] at d0 d1 d2 d3 d4
          simp only [List.length_cons, List.length_nil] at he1 ⊢
          have HS6 := hid hs6.less
          have z6 := cell_keep HS6.out.keepsW (by simp) HC0.out
          clear hs6 hev hec
          go_wp2_with fail
          go_quiet (fail)
          go_wp2_with fail
          go_roundw
          case rel => exact ⟨j + 1, (inn ++ [1]), t, (r + 1), by omega, by go_num, by simp, by simp; omega, by simpa using HS6.out.next (by (repeat (first | exact Keeps.refl _ _ | apply Keeps.drewN | apply Keeps.drew | apply Keeps.alloc))), HO3.out.mono (by omega)⟩
          case measure => simp [intOf] <;> omega
      · as_aux_lemma =>
          have hs : PS w wr pb nb (eN inn r t) edL [((0, 1), edD true r)] [] [((w5.heap.size, 1), .int .i64 1), ((w5.heap.size, 0), .int .i64 0)] := by simpa using HS.out
          replace HS := hid hs
          clear hs
          have O3 := okN_send HO.out 0 [[1]]
          rw [eN_send inn r t hi0] at O3
          have HO3 := hid O3
          clear O3
          go_wp2_with fail
          refine (send_P HS.out (((Keeps.refl [] wr).alloc _).alloc _) HO.out (by omega) 0 _ _ (fun F hF => rows_byte 1 hF)).mono ?_
          simp only [List.map_cons, List.map_nil]
          rw [eN_send inn r t hi0]
          rintro e w9 ⟨rfl, hs5⟩
          have hci := hs5.cell
          have HS5 := hid hs5
          clear hs5 HS c0
          go_wp2_with fail
          refine (wait_S HS5.out (Keeps.refl [] _) (by simp [edL]) _ [] (fun F hF => CellsIn.nil _ _)).mono ?_
          rw [ed_evs, ed_toldP, ed_cameT, if_pos ⟨rfl, rfl⟩, if_pos rfl]
          rintro e w6 ⟨v, rfl, hs6⟩
          replace hs6 : PS w w6 pb nb (eN (inn ++ [1]) (r + 1) t) edL [((0, 1), edD true (r + 1))] [(v, [edE])] [((w5.heap.size, 1), .int .i64 1), ((w5.heap.size, 0), .int .i64 0)] := by simpa [pickE, pickGo, pickI] using hs6
          have hev := hs6.row (r := (v, [edE])) (by simp)
          simp only at hev
          obtain ⟨EA, ec, rfl, he1, he2⟩ := hev.shape
          obtain ⟨eb, eo, rfl, -, hec⟩ := hev.at_ (by simp)
          obtain ⟨d0, d1, d2, d3, d4⟩ := hec 0 edE rfl
          obtain ⟨k0, k1⟩ := hs6.hcells
          have hci6 := hs6.cell
          simp [edE] at d0 d1 d2 d3 d4
          simp only [List.length_cons, List.length_nil] at he1 ⊢
          have HS6 := hid hs6.less
          have z6 := cell_keep HS6.out.keepsW (by simp) HC0.out
          clear hs6 hev hec
          go_wp2_with fail
          go_quiet (fail)
          go_wp2_with fail
          go_roundw
          case rel => exact ⟨j + 1, (inn ++ [1]), t, (r + 1), by omega, by go_num, by simp, by simp; omega, by simpa using HS6.out.next (by (repeat (first | exact Keeps.refl _ _ | apply Keeps.drewN | apply Keeps.drew | apply Keeps.alloc))), HO3.out.mono (by omega)⟩
          case measure => simp [intOf] <;> omega
      · as_aux_lemma =>
          have hs : PS w wr pb nb (eN inn r t) edL [((0, 1), edD false 0)] [] [((w5.heap.size, 1), .int .i64 1), ((w5.heap.size, 0), .int .i64 0)] := by simpa using HS.out
          replace HS := hid hs
          clear hs
          have O3 := okN_send HO.out 0 [[1]]
          rw [eN_send inn r t hi0] at O3
          have HO3 := hid O3
          clear O3
          go_wp2_with fail
          refine (send_P HS.out (((Keeps.refl [] wr).alloc _).alloc _) HO.out (by omega) 0 _ _ (fun F hF => rows_byte 1 hF)).mono ?_
          simp only [List.map_cons, List.map_nil]
          rw [eN_send inn r t hi0]
          rintro e w9 ⟨rfl, hs5⟩
          have hci := hs5.cell
          have HS5 := hid hs5
          clear hs5 HS c0
          go_wp2_with fail
          refine (wait_S HS5.out (Keeps.refl [] _) (by simp [edL]) _ [] (fun F hF => CellsIn.nil _ _)).mono ?_
          rw [ed_evs, ed_toldP, ed_cameF, if_neg (by simp), if_pos rfl]
          rintro e w6 ⟨v, rfl, hs6⟩
          replace hs6 : PS w w6 pb nb (eN (inn ++ [1]) (r + 1) t) edL [((0, 1), edD false 0)] [(v, [edE])] [((w5.heap.size, 1), .int .i64 1), ((w5.heap.size, 0), .int .i64 0)] := by simpa [pickE, pickGo, pickI] using hs6
          have hev := hs6.row (r := (v, [edE])) (by simp)
          simp only at hev
          obtain ⟨EA, ec, rfl, he1, he2⟩ := hev.shape
          obtain ⟨eb, eo, rfl, -, hec⟩ := hev.at_ (by simp)
          obtain ⟨d0, d1, d2, d3, d4⟩ := hec 0 edE rfl
          obtain ⟨k0, k1⟩ := hs6.hcells
          have hci6 := hs6.cell
          simp [edE] at d0 d1 d2 d3 d4
          simp only [List.length_cons, List.length_nil] at he1 ⊢
          have HS6 := hid hs6.less
          have z6 := cell_keep HS6.out.keepsW (by simp) HC0.out
          clear hs6 hev hec
          go_wp2_with fail
          go_quiet (fail)
          go_wp2_with fail
          go_roundw
          case rel => exact ⟨j + 1, (inn ++ [1]), t, (r + 1), by omega, by go_num, by simp, by simp; omega, by simpa using HS6.out.next (by (repeat (first | exact Keeps.refl _ _ | apply Keeps.drewN | apply Keeps.drew | apply Keeps.alloc))), HO3.out.mono (by omega)⟩
          case measure => simp [intOf] <;> omega
      · as_aux_lemma =>
          have hs : PS w wr pb nb (eN inn r t) edL [((0, 1), edD true r)] [] [((w5.heap.size, 1), .int .i64 1), ((w5.heap.size, 0), .int .i64 0)] := by simpa using HS.out
          replace HS := hid hs
          clear hs
          have O3 := okN_send HO.out 0 [[1]]
          rw [eN_send inn r t hi0] at O3
          have HO3 := hid O3
          clear O3
          go_wp2_with fail
          refine (send_P HS.out (((Keeps.refl [] wr).alloc _).alloc _) HO.out (by omega) 0 _ _ (fun F hF => rows_byte 1 hF)).mono ?_
          simp only [List.map_cons, List.map_nil]
          rw [eN_send inn r t hi0]
          rintro e w9 ⟨rfl, hs5⟩
          have hci := hs5.cell
          have HS5 := hid hs5
          clear hs5 HS c0
          go_wp2_with fail
          refine (wait_S HS5.out (Keeps.refl [] _) (by simp [edL]) _ [] (fun F hF => CellsIn.nil _ _)).mono ?_
          rw [ed_evs, ed_toldP, ed_cameT, if_pos ⟨rfl, rfl⟩, if_pos rfl]
          rintro e w6 ⟨v, rfl, hs6⟩
          replace hs6 : PS w w6 pb nb (eN (inn ++ [1]) (r + 1) t) edL [((0, 1), edD true (r + 1))] [(v, [edE])] [((w5.heap.size, 1), .int .i64 1), ((w5.heap.size, 0), .int .i64 0)] := by simpa [pickE, pickGo, pickI] using hs6
          have hev := hs6.row (r := (v, [edE])) (by simp)
          simp only at hev
          obtain ⟨EA, ec, rfl, he1, he2⟩ := hev.shape
          obtain ⟨eb, eo, rfl, -, hec⟩ := hev.at_ (by simp)
          obtain ⟨d0, d1, d2, d3, d4⟩ := hec 0 edE rfl
          obtain ⟨k0, k1⟩ := hs6.hcells
          have hci6 := hs6.cell
          simp [edE] at d0 d1 d2 d3 d4
          simp only [List.length_cons, List.length_nil] at he1 ⊢
          have HS6 := hid hs6.less
          have z6 := cell_keep HS6.out.keepsW (by simp) HC0.out
          clear hs6 hev hec
          go_wp2_with fail
          go_quiet (fail)
          go_wp2_with fail
          go_roundw
          case rel => exact ⟨j + 1, (inn ++ [1]), t, (r + 1), by omega, by go_num, by simp, by simp; omega, by simpa using HS6.out.next (by (repeat (first | exact Keeps.refl _ _ | apply Keeps.drewN | apply Keeps.drew | apply Keeps.alloc))), HO3.out.mono (by omega)⟩
          case measure => simp [intOf] <;> omega
      · as_aux_lemma =>
          have hs : PS w wr pb nb (eN inn r t) edL [((0, 1), edD false 0)] [] [((w5.heap.size, 1), .int .i64 1), ((w5.heap.size, 0), .int .i64 0)] := by simpa using HS.out
          replace HS := hid hs
          clear hs
          go_wp2_with fail
          refine (wait_S HS.out (Keeps.refl [] _) (by simp [edL]) _ [] (fun F hF => CellsIn.nil _ _)).mono ?_
          rw [ed_evs, ed_toldP, ed_there, HSB.out]
          rintro e w6 ⟨v, rfl, hs6⟩
          replace hs6 : PS w w6 pb nb (eN inn r t) edL [((0, 1), edD false 0)] [(v, [])] [((w5.heap.size, 1), .int .i64 1), ((w5.heap.size, 0), .int .i64 0)] := by simpa [pickE, pickGo, pickI] using hs6
          have hev := hs6.row (r := (v, [])) (by simp)
          simp only at hev
          obtain ⟨EA, ec, rfl, he1, he2⟩ := hev.shape
          obtain ⟨k0, k1⟩ := hs6.hcells
          have hci6 := hs6.cell
          simp only [List.length_nil] at he1 ⊢
          have HS6 := hid hs6.less
          have z6 := cell_keep HS6.out.keepsW (by simp) HC0.out
          clear hs6 hev
          go_wp2_with fail
          go_quiet (fail)
          go_wp2_with fail
          obtain ⟨x, hx⟩ := eN_read inn r t (by omega)
          have OR := okN_read HO.out 0 2000
          rw [hx] at OR
          have HOR := hid OR
          clear OR
          refine (read_P (HS6.out.next (by (repeat (first | exact Keeps.refl _ _ | apply Keeps.drewN | apply Keeps.drew | apply Keeps.alloc)))) HO.out (by omega) 0 2000 (by omega)).mono ?_
          rw [hx]
          rintro e w7 ⟨v7, rfl, hs7⟩
          have HS7 := hid hs7
          clear hs7
          go_wp2_with fail
          go_roundw
          case rel => exact ⟨j + 1, [], t ++ inn, r, by omega, by go_num, rfl, by simp, by simpa using HS7.out, HOR.out.mono (by omega)⟩
          case measure => simp [intOf] <;> omega
      · as_aux_lemma =>
          have hs : PS w wr pb nb (eN inn r t) edL [((0, 1), edD true r)] [] [((w5.heap.size, 1), .int .i64 1), ((w5.heap.size, 0), .int .i64 0)] := by simpa using HS.out
          replace HS := hid hs
          clear hs
          go_wp2_with fail
          refine (wait_S HS.out (Keeps.refl [] _) (by simp [edL]) _ [] (fun F hF => CellsIn.nil _ _)).mono ?_
          rw [ed_evs, ed_toldP, ed_not, if_neg (by simp), if_neg (by simp)]
          rintro e w6 ⟨v, rfl, hs6⟩
          replace hs6 : PS w w6 pb nb (eN inn r t) edL [((0, 1), edD true r)] [(v, [])] [((w5.heap.size, 1), .int .i64 1), ((w5.heap.size, 0), .int .i64 0)] := by simpa [pickE, pickGo, pickI] using hs6
          have hev := hs6.row (r := (v, [])) (by simp)
          simp only at hev
          obtain ⟨EA, ec, rfl, he1, he2⟩ := hev.shape
          obtain ⟨k0, k1⟩ := hs6.hcells
          have hci6 := hs6.cell
          simp only [List.length_nil] at he1 ⊢
          have HS6 := hid hs6.less
          have z6 := cell_keep HS6.out.keepsW (by simp) HC0.out
          clear hs6 hev
          go_wp2_with fail
          go_quiet (fail)
          go_wp2_with fail
          obtain ⟨x, hx⟩ := eN_read inn r t (by omega)
          have OR := okN_read HO.out 0 2000
          rw [hx] at OR
          have HOR := hid OR
          clear OR
          refine (read_P (HS6.out.next (by (repeat (first | exact Keeps.refl _ _ | apply Keeps.drewN | apply Keeps.drew | apply Keeps.alloc)))) HO.out (by omega) 0 2000 (by omega)).mono ?_
          rw [hx]
          rintro e w7 ⟨v7, rfl, hs7⟩
          have HS7 := hid hs7
          clear hs7
          go_wp2_with fail
          go_roundw
          case rel => exact ⟨j + 1, [], t ++ inn, r, by omega, by go_num, rfl, by simp, by simpa using HS7.out, HOR.out.mono (by omega)⟩
          case measure => simp [intOf] <;> omega
      · as_aux_lemma =>
          have hs : PS w wr pb nb (eN inn r t) edL [((0, 1), edD false 0)] [] [((w5.heap.size, 1), .int .i64 1), ((w5.heap.size, 0), .int .i64 0)] := by simpa using HS.out
          replace HS := hid hs
          clear hs
          go_wp2_with fail
          refine (wait_S HS.out (Keeps.refl [] _) (by simp [edL]) _ [] (fun F hF => CellsIn.nil _ _)).mono ?_
          rw [ed_evs, ed_toldP, ed_there, HSB.out]
          rintro e w6 ⟨v, rfl, hs6⟩
          replace hs6 : PS w w6 pb nb (eN inn r t) edL [((0, 1), edD false 0)] [(v, [edE])] [((w5.heap.size, 1), .int .i64 1), ((w5.heap.size, 0), .int .i64 0)] := by simpa [pickE, pickGo, pickI] using hs6
          have hev := hs6.row (r := (v, [edE])) (by simp)
          simp only at hev
          obtain ⟨EA, ec, rfl, he1, he2⟩ := hev.shape
          obtain ⟨eb, eo, rfl, -, hec⟩ := hev.at_ (by simp)
          obtain ⟨d0, d1, d2, d3, d4⟩ := hec 0 edE rfl
          obtain ⟨k0, k1⟩ := hs6.hcells
          have hci6 := hs6.cell
          simp [edE] at d0 d1 d2 d3 d4
          simp only [List.length_cons, List.length_nil] at he1 ⊢
          have HS6 := hid hs6.less
          have z6 := cell_keep HS6.out.keepsW (by simp) HC0.out
          clear hs6 hev hec
          go_wp2_with fail
          go_quiet (fail)
          go_wp2_with fail
          obtain ⟨x, hx⟩ := eN_read inn r t (by omega)
          have OR := okN_read HO.out 0 2000
          rw [hx] at OR
          have HOR := hid OR
          clear OR
          refine (read_P (HS6.out.next (by (repeat (first | exact Keeps.refl _ _ | apply Keeps.drewN | apply Keeps.drew | apply Keeps.alloc)))) HO.out (by omega) 0 2000 (by omega)).mono ?_
          rw [hx]
          rintro e w7 ⟨v7, rfl, hs7⟩
          have HS7 := hid hs7
          clear hs7
          go_wp2_with fail
          go_roundw
          case rel => exact ⟨j + 1, [], t ++ inn, r, by omega, by go_num, rfl, by simp, by simpa using HS7.out, HOR.out.mono (by omega)⟩
          case measure => simp [intOf] <;> omega
      · as_aux_lemma =>
          have hs : PS w wr pb nb (eN inn r t) edL [((0, 1), edD true r)] [] [((w5.heap.size, 1), .int .i64 1), ((w5.heap.size, 0), .int .i64 0)] := by simpa using HS.out
          replace HS := hid hs
          clear hs
          go_wp2_with fail
          refine (wait_S HS.out (Keeps.refl [] _) (by simp [edL]) _ [] (fun F hF => CellsIn.nil _ _)).mono ?_
          rw [ed_evs, ed_toldP, ed_not, if_neg (by simp), if_neg (by simp)]
          rintro e w6 ⟨v, rfl, hs6⟩
          replace hs6 : PS w w6 pb nb (eN inn r t) edL [((0, 1), edD true r)] [(v, [])] [((w5.heap.size, 1), .int .i64 1), ((w5.heap.size, 0), .int .i64 0)] := by simpa [pickE, pickGo, pickI] using hs6
          have hev := hs6.row (r := (v, [])) (by simp)
          simp only at hev
          obtain ⟨EA, ec, rfl, he1, he2⟩ := hev.shape
          obtain ⟨k0, k1⟩ := hs6.hcells
          have hci6 := hs6.cell
          simp only [List.length_nil] at he1 ⊢
          have HS6 := hid hs6.less
          have z6 := cell_keep HS6.out.keepsW (by simp) HC0.out
          clear hs6 hev
          go_wp2_with fail
          go_quiet (fail)
          go_wp2_with fail
          obtain ⟨x, hx⟩ := eN_read inn r t (by omega)
          have OR := okN_read HO.out 0 2000
          rw [hx] at OR
          have HOR := hid OR
          clear OR
          refine (read_P (HS6.out.next (by (repeat (first | exact Keeps.refl _ _ | apply Keeps.drewN | apply Keeps.drew | apply Keeps.alloc)))) HO.out (by omega) 0 2000 (by omega)).mono ?_
          rw [hx]
          rintro e w7 ⟨v7, rfl, hs7⟩
          have HS7 := hid hs7
          clear hs7
          go_wp2_with fail
          go_roundw
          case rel => exact ⟨j + 1, [], t ++ inn, r, by omega, by go_num, rfl, by simp, by simpa using HS7.out, HOR.out.mono (by omega)⟩
          case measure => simp [intOf] <;> omega
      · as_aux_lemma =>
          have hs : PS w wr pb nb (eN inn r t) edL [((0, 1), edD false 0)] [] [((w5.heap.size, 1), .int .i64 1), ((w5.heap.size, 0), .int .i64 0)] := by simpa using HS.out
          replace HS := hid hs
          clear hs
          go_wp2_with fail
          refine (wait_S HS.out (Keeps.refl [] _) (by simp [edL]) _ [] (fun F hF => CellsIn.nil _ _)).mono ?_
          rw [ed_evs, ed_toldP, ed_there, HSB.out]
          rintro e w6 ⟨v, rfl, hs6⟩
          replace hs6 : PS w w6 pb nb (eN inn r t) edL [((0, 1), edD false 0)] [(v, [])] [((w5.heap.size, 1), .int .i64 1), ((w5.heap.size, 0), .int .i64 0)] := by simpa [pickE, pickGo, pickI] using hs6
          have hev := hs6.row (r := (v, [])) (by simp)
          simp only at hev
          obtain ⟨EA, ec, rfl, he1, he2⟩ := hev.shape
          obtain ⟨k0, k1⟩ := hs6.hcells
          have hci6 := hs6.cell
          simp only [List.length_nil] at he1 ⊢
          have HS6 := hid hs6.less
          have z6 := cell_keep HS6.out.keepsW (by simp) HC0.out
          clear hs6 hev
          go_wp2_with fail
          go_quiet (fail)
          go_wp2_with fail
          go_roundw
          case rel => exact ⟨j + 1, inn, t, r, by omega, by go_num, by rw [HSB.out], by omega, by simpa using HS6.out.next (by (repeat (first | exact Keeps.refl _ _ | apply Keeps.drewN | apply Keeps.drew | apply Keeps.alloc))), HO.out.mono (by omega)⟩
          case measure => simp [intOf] <;> omega
      · as_aux_lemma =>
          have hs : PS w wr pb nb (eN inn r t) edL [((0, 1), edD true r)] [] [((w5.heap.size, 1), .int .i64 1), ((w5.heap.size, 0), .int .i64 0)] := by simpa using HS.out
          replace HS := hid hs
          clear hs
          go_wp2_with fail
          refine (wait_S HS.out (Keeps.refl [] _) (by simp [edL]) _ [] (fun F hF => CellsIn.nil _ _)).mono ?_
          rw [ed_evs, ed_toldP, ed_not, if_neg (by simp), if_neg (by simp)]
          rintro e w6 ⟨v, rfl, hs6⟩
          replace hs6 : PS w w6 pb nb (eN inn r t) edL [((0, 1), edD true r)] [(v, [])] [((w5.heap.size, 1), .int .i64 1), ((w5.heap.size, 0), .int .i64 0)] := by simpa [pickE, pickGo, pickI] using hs6
          have hev := hs6.row (r := (v, [])) (by simp)
          simp only at hev
          obtain ⟨EA, ec, rfl, he1, he2⟩ := hev.shape
          obtain ⟨k0, k1⟩ := hs6.hcells
          have hci6 := hs6.cell
          simp only [List.length_nil] at he1 ⊢
          have HS6 := hid hs6.less
          have z6 := cell_keep HS6.out.keepsW (by simp) HC0.out
          clear hs6 hev
          go_wp2_with fail
          go_quiet (fail)
          go_wp2_with fail
          go_roundw
          case rel => exact ⟨j + 1, inn, t, r, by omega, by go_num, by rw [HSB.out], by omega, by simpa using HS6.out.next (by (repeat (first | exact Keeps.refl _ _ | apply Keeps.drewN | apply Keeps.drew | apply Keeps.alloc))), HO.out.mono (by omega)⟩
          case measure => simp [intOf] <;> omega
      · as_aux_lemma =>
          have hs : PS w wr pb nb (eN inn r t) edL [((0, 1), edD false 0)] [] [((w5.heap.size, 1), .int .i64 1), ((w5.heap.size, 0), .int .i64 0)] := by simpa using HS.out
          replace HS := hid hs
          clear hs
          go_wp2_with fail
          refine (wait_S HS.out (Keeps.refl [] _) (by simp [edL]) _ [] (fun F hF => CellsIn.nil _ _)).mono ?_
          rw [ed_evs, ed_toldP, ed_there, HSB.out]
          rintro e w6 ⟨v, rfl, hs6⟩
          replace hs6 : PS w w6 pb nb (eN inn r t) edL [((0, 1), edD false 0)] [(v, [edE])] [((w5.heap.size, 1), .int .i64 1), ((w5.heap.size, 0), .int .i64 0)] := by simpa [pickE, pickGo, pickI] using hs6
          have hev := hs6.row (r := (v, [edE])) (by simp)
          simp only at hev
          obtain ⟨EA, ec, rfl, he1, he2⟩ := hev.shape
          obtain ⟨eb, eo, rfl, -, hec⟩ := hev.at_ (by simp)
          obtain ⟨d0, d1, d2, d3, d4⟩ := hec 0 edE rfl
          obtain ⟨k0, k1⟩ := hs6.hcells
          have hci6 := hs6.cell
          simp [edE] at d0 d1 d2 d3 d4
          simp only [List.length_cons, List.length_nil] at he1 ⊢
          have HS6 := hid hs6.less
          have z6 := cell_keep HS6.out.keepsW (by simp) HC0.out
          clear hs6 hev hec
          go_wp2_with fail
          go_quiet (fail)
          go_wp2_with fail
          go_roundw
          case rel => exact ⟨j + 1, inn, t, r, by omega, by go_num, by rw [HSB.out], by omega, by simpa using HS6.out.next (by (repeat (first | exact Keeps.refl _ _ | apply Keeps.drewN | apply Keeps.drew | apply Keeps.alloc))), HO.out.mono (by omega)⟩
          case measure => simp [intOf] <;> omega
      · as_aux_lemma =>
          have hs : PS w wr pb nb (eN inn r t) edL [((0, 1), edD true r)] [] [((w5.heap.size, 1), .int .i64 1), ((w5.heap.size, 0), .int .i64 0)] := by simpa using HS.out
          replace HS := hid hs
          clear hs
          go_wp2_with fail
          refine (wait_S HS.out (Keeps.refl [] _) (by simp [edL]) _ [] (fun F hF => CellsIn.nil _ _)).mono ?_
          rw [ed_evs, ed_toldP, ed_not, if_neg (by simp), if_neg (by simp)]
          rintro e w6 ⟨v, rfl, hs6⟩
          replace hs6 : PS w w6 pb nb (eN inn r t) edL [((0, 1), edD true r)] [(v, [])] [((w5.heap.size, 1), .int .i64 1), ((w5.heap.size, 0), .int .i64 0)] := by simpa [pickE, pickGo, pickI] using hs6
          have hev := hs6.row (r := (v, [])) (by simp)
          simp only at hev
          obtain ⟨EA, ec, rfl, he1, he2⟩ := hev.shape
          obtain ⟨k0, k1⟩ := hs6.hcells
          have hci6 := hs6.cell
          simp only [List.length_nil] at he1 ⊢
          have HS6 := hid hs6.less
          have z6 := cell_keep HS6.out.keepsW (by simp) HC0.out
          clear hs6 hev
          go_wp2_with fail
          go_quiet (fail)
          go_wp2_with fail
          go_roundw
          case rel => exact ⟨j + 1, inn, t, r, by omega, by go_num, by rw [HSB.out], by omega, by simpa using HS6.out.next (by (repeat (first | exact Keeps.refl _ _ | apply Keeps.drewN | apply Keeps.drew | apply Keeps.alloc))), HO.out.mono (by omega)⟩
          case measure => simp [intOf] <;> omega
    · have hjl : j = zs.length := by omega
      subst hjl
      have HKW := hid HS.out.keepsW
      clear HS
      go_wp2_with (go_at_call 56; refine (pknown_any _).mono ?_; rintro e w5 ⟨rfl, hk5⟩)
      go_ret
      exact ⟨rfl, (HKW.out.trans hk5 (by simp)).below (Nat.le_refl _) (by simp)⟩
theorem pollEdges_walk (w : World) (pv : Value) (zs : List Int) (hz : CellsIn w [] pv (zs.map (.int .i64))) (_ : ∀ n ∈ zs, (Lit.int .i64 n).wf = true) (edge : Bool) :
    Calls Try.prog 13 #[pv, .bool edge] w fun e w' => e = .returned (.bool true) ∧ Below w.heap.size w w' := by
  by_cases h : 60 < zs.length
  · exact pollEdges_out w pv zs hz edge h
  · exact pollEdges_in w pv zs hz edge (by omega)
end Go.Proofs.Ytkeffebcmajhmaa
