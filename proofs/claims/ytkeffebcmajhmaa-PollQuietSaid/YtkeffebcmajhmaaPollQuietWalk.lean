/- The walk of PollQuiet. -/
import Derived.Test.YtkeffebcmajhmaaPoll18
import Derived.BigQuiet
namespace Go.Proofs.Ytkeffebcmajhmaa
open Go.RowKit
set_option linter.unusedVariables false
set_option linter.unusedSimpArgs false
set_option maxRecDepth 100000 in
set_option maxHeartbeats 16000000 in
theorem pollQuiet_walk (w : World) (rd wr came op : Bool) :
    Calls Try.prog 16 #[.bool rd, .bool wr, .bool came, .bool op] w fun e w' => e = .returned (.bool true) ∧ Below w.heap.size w w' := by
  have hrun : ∀ (r u : Bool) (w : World), (Op.equalIn 10000 95 (evA (qE r u)) (evA (qE r u))).run Try.prog w = .ok true w := fun r u w => by
    have h := run_eqEv (qE r u) (qE r u) w
    rw [decide_eq_true rfl] at h
    exact h
  unfold evA qE at hrun
  simp only at hrun
  go_enter Try.func16, Try.ntmps16
  go_wp2_with fail
  refine (nnew_ok 1 w (by omega) (by omega)).mono ?_
  rintro e w1 ⟨rfl, hn1, hk1⟩
  go_wp2_with fail
  refine (ponew_S w w1 w.heap.size _ _ hn1 (by simp) hk1).mono ?_
  rintro e w2 ⟨pb, rfl, hs2⟩
  have c2 := hs2.cell
  obtain ⟨nb, hnb⟩ : ∃ nb, w.heap.size = nb := ⟨_, rfl⟩
  rw [hnb] at hs2 c2
  have HS2 := hid hs2
  have HNB := hid hnb
  clear hs2 hn1 hk1 hnb
  have O1 := okN_connect (okN_new 1 (by omega) (by omega)) 1 (by omega)
  have O2 := okN_accept O1
  rw [e2] at O2
  have O3 := okN_send O2 0 [[1]]
  rw [q1] at O3
  have HO1 := hid O1
  have HO2 := hid O2
  have HO3 := hid O3
  clear O1 O2 O3
  go_wp2_with fail
  refine (connect_P HS2.out (okN_new 1 (by omega) (by omega)) (by omega) 1).mono ?_
  rw [e1]
  rintro e w3 ⟨rfl, hs3⟩
  have c3 := hs3.cell
  have HS3 := hid hs3
  clear hs3 HS2 c2
  go_wp2_with fail
  refine (accept_P HS3.out HO1.out (by omega)).mono ?_
  rw [e2]
  rintro e w4 ⟨rfl, hs4⟩
  have c4 := hs4.cell
  have HS4 := hid hs4
  clear hs4 HS3 c3
  go_wp2_with fail
  refine (watch_S HS4.out 0 rd wr false (.inr rfl) (by simp) (by simp) (by simp) (by simp)).mono ?_
  rw [show freeAt [] = 0 from rfl, show putG [] = 1 from rfl, show putL [] 0 = edL from rfl]
  rintro e w5 ⟨rfl, hs5⟩
  replace hs5 : PS w w5 pb nb (eN [] 0 []) edL [((0, 1), qD rd wr)] [] [] := hs5
  have hs6 := hs5.handle 0 1
  have c6 := hs6.cell
  have HS6 := hid hs6
  clear hs5 hs6 HS4 c4
  go_upto_if 62 with (fail)
  go_cut [] (fun wx => PS w wx pb nb (qC came) edL [((0, 1), qD rd wr)] [] [((w5.heap.size, 1), .int .i64 1), ((w5.heap.size, 0), .int .i64 0)])
  case first =>
    cases came with
    | true =>
      go_wp2_with fail
      refine (send_P HS6.out (((Keeps.refl [] _).alloc _).alloc _) HO2.out (by omega) 0 _ _ (fun F hF => rows_byteAt 1 (by simp) hF)).mono ?_
      simp only [List.map_cons, List.map_nil]
      rw [q1]
      rintro e w9 ⟨rfl, hs9⟩
      go_wp2_with fail
      go_meet
      case rel => exact hs9
    | false =>
      go_wp2_with fail
      go_meet
      case rel => exact HS6.out
  case rest =>
  have HC1 := hid hcut
  have c7 := HC1.out.cell
  clear hcut HS6 c6
  go_upto_if 70 with (fail)
  go_cut [] (fun wx => PS w wx pb nb (qO came op) edL [((0, 1), qD rd wr)] [] [((w5.heap.size, 1), .int .i64 1), ((w5.heap.size, 0), .int .i64 0)])
  case first =>
    cases op with
    | true =>
      go_wp2_with fail
      refine (open_P HC1.out (q12 came) (by omega) 0 1).mono ?_
      rw [q11]
      rintro e w10 ⟨rfl, hs10⟩
      go_wp2_with fail
      go_meet
      case rel => exact hs10
    | false =>
      go_wp2_with fail
      go_meet
      case rel => exact HC1.out
  case rest =>
  have HC2 := hid hcut
  have c8 := HC2.out.cell
  clear hcut HC1 c7
  go_wp2_with fail
  refine (wait_S HC2.out (Keeps.refl [] _) (by simp [edL]) _ [] (fun F hF => CellsIn.nil _ _)).mono ?_
  rw [q7, q8, q10]
  rintro e w12 ⟨v, rfl, hs12⟩
  have HS := hid hs12
  clear hs12 HC2 c8
  go_upto_region 13 with (fail)
  go_cut [16, 17] (fun s16 s17 wx => s16 = .bool (rd && came) ∧ s17 = .bool (wr && op) ∧ wx = w12)
  case first =>
    cases rd <;> cases wr
    all_goals
      go_wp2_with fail
      go_meet
      case rel => exact ⟨rfl, rfl, rfl⟩
  case rest =>
  obtain ⟨rfl, rfl, rfl⟩ := hcut
  obtain ⟨r, hr⟩ : ∃ r, (rd && came) = r := ⟨_, rfl⟩
  obtain ⟨u, hu⟩ : ∃ u, (wr && op) = u := ⟨_, rfl⟩
  rw [hr, hu] at HS ⊢
  clear hr hu
  cases r <;> cases u
  · as_aux_lemma =>
      have hs12 : PS w wc pb nb (qO came op) edL [((0, 1), qD rd wr)] [(v, [])] [((w5.heap.size, 1), .int .i64 1), ((w5.heap.size, 0), .int .i64 0)] := HS.out
      clear HS
      have hev := hs12.row (r := (v, [])) (by simp)
      simp only at hev
      obtain ⟨EA, ec, rfl, he1, he2⟩ := hev.shape
      obtain ⟨k0, k1⟩ := hs12.hcells
      have hck := hs12.cell
      simp only [List.length_cons, List.length_nil] at he1 ⊢
      have HS12 := hid hs12.less
      clear hs12 hev
      go_wp2_with fail
      go_quiet (fail)
      have p0 := fun o => alloc_cell k0 o
      have p1 := fun o => alloc_cell k1 o
      go_wp2_with fail
      refine (drop_S HS12.out (by (repeat (first | exact Keeps.refl _ _ | apply Keeps.drewN | apply Keeps.drew | apply Keeps.alloc))) _ [(0, 1)] (fun F hF => hs_new (hs := [(0, 1)]) (Blk.newAt (by simp)) (fun hx => by have := hF _ hx; omega) (by simp)) (by simp) (by simp)).mono ?_
      rw [q5, q6]
      rintro e w13 ⟨rfl, hs13⟩
      have HS13 := hid hs13
      obtain ⟨k2, k3⟩ := hs13.hcells
      clear hs13
      go_wp2_with (first
        | (go_at_call 54; refine (wait_S HS13.out (Keeps.refl [] _) (by simp) _ [] (fun F hF => CellsIn.nil _ _)).mono ?_; rw [q4, pickE_nil]; rintro e w14 ⟨v14, rfl, hs14⟩; have hev := hs14.row (r := (v14, [])) (by simp); simp only at hev; obtain ⟨EA', ec', rfl, he1', he2'⟩ := hev.shape; obtain ⟨k4, k5⟩ := hs14.hcells; simp only [List.length_nil] at he1' ⊢; have HS14 := hid hs14.less; clear hs14 hev)
        | (go_at_call 52; refine (change_none HS14.out 0 1 true true rfl).mono ?_; rintro e w15 ⟨rfl, hs15⟩; have HS15 := hid hs15; clear hs15)
        | (go_at_call 55; refine (watched_S HS15.out).mono ?_; rintro e w16 ⟨rfl, hs16⟩; have HS16 := hid hs16; clear hs16)
        | (go_at_call 56; refine (pknown_any _).mono ?_; rintro e w17 ⟨rfl, hk17⟩))
      go_ret
      exact ⟨rfl, (HS16.out.keepsW.trans hk17 (by simp)).below (Nat.le_refl _) (by simp)⟩
  · as_aux_lemma =>
      have hs12 : PS w wc pb nb (qO came op) edL [((0, 1), qD rd wr)] [(v, [qE false true])] [((w5.heap.size, 1), .int .i64 1), ((w5.heap.size, 0), .int .i64 0)] := HS.out
      clear HS
      have hev := hs12.row (r := (v, [qE false true])) (by simp)
      simp only at hev
      obtain ⟨EA, ec, rfl, he1, he2⟩ := hev.shape
      obtain ⟨eb, eo, rfl, -, hec⟩ := hev.at_ (by simp)
      obtain ⟨d0, d1, d2, d3, d4⟩ := hec 0 _ rfl
      simp [qE] at d0 d1 d2 d3 d4
      clear hec
      obtain ⟨k0, k1⟩ := hs12.hcells
      have hck := hs12.cell
      simp only [List.length_cons, List.length_nil] at he1 ⊢
      have HS12 := hid hs12.less
      clear hs12 hev
      go_wp2_with fail
      go_quiet (fail)
      have p0 := fun o => alloc_cell k0 o
      have p1 := fun o => alloc_cell k1 o
      go_wp2_with fail
      refine (drop_S HS12.out (by (repeat (first | exact Keeps.refl _ _ | apply Keeps.drewN | apply Keeps.drew | apply Keeps.alloc))) _ [(0, 1)] (fun F hF => hs_new (hs := [(0, 1)]) (Blk.newAt (by simp)) (fun hx => by have := hF _ hx; omega) (by simp)) (by simp) (by simp)).mono ?_
      rw [q5, q6]
      rintro e w13 ⟨rfl, hs13⟩
      have HS13 := hid hs13
      obtain ⟨k2, k3⟩ := hs13.hcells
      clear hs13
      go_wp2_with (first
        | (go_at_call 54; refine (wait_S HS13.out (Keeps.refl [] _) (by simp) _ [] (fun F hF => CellsIn.nil _ _)).mono ?_; rw [q4, pickE_nil]; rintro e w14 ⟨v14, rfl, hs14⟩; have hev := hs14.row (r := (v14, [])) (by simp); simp only at hev; obtain ⟨EA', ec', rfl, he1', he2'⟩ := hev.shape; obtain ⟨k4, k5⟩ := hs14.hcells; simp only [List.length_nil] at he1' ⊢; have HS14 := hid hs14.less; clear hs14 hev)
        | (go_at_call 52; refine (change_none HS14.out 0 1 true true rfl).mono ?_; rintro e w15 ⟨rfl, hs15⟩; have HS15 := hid hs15; clear hs15)
        | (go_at_call 55; refine (watched_S HS15.out).mono ?_; rintro e w16 ⟨rfl, hs16⟩; have HS16 := hid hs16; clear hs16)
        | (go_at_call 56; refine (pknown_any _).mono ?_; rintro e w17 ⟨rfl, hk17⟩))
      go_ret
      exact ⟨rfl, (HS16.out.keepsW.trans hk17 (by simp)).below (Nat.le_refl _) (by simp)⟩
  · as_aux_lemma =>
      have hs12 : PS w wc pb nb (qO came op) edL [((0, 1), qD rd wr)] [(v, [qE true false])] [((w5.heap.size, 1), .int .i64 1), ((w5.heap.size, 0), .int .i64 0)] := HS.out
      clear HS
      have hev := hs12.row (r := (v, [qE true false])) (by simp)
      simp only at hev
      obtain ⟨EA, ec, rfl, he1, he2⟩ := hev.shape
      obtain ⟨eb, eo, rfl, -, hec⟩ := hev.at_ (by simp)
      obtain ⟨d0, d1, d2, d3, d4⟩ := hec 0 _ rfl
      simp [qE] at d0 d1 d2 d3 d4
      clear hec
      obtain ⟨k0, k1⟩ := hs12.hcells
      have hck := hs12.cell
      simp only [List.length_cons, List.length_nil] at he1 ⊢
      have HS12 := hid hs12.less
      clear hs12 hev
      go_wp2_with fail
      go_quiet (fail)
      have p0 := fun o => alloc_cell k0 o
      have p1 := fun o => alloc_cell k1 o
      go_wp2_with fail
      refine (drop_S HS12.out (by (repeat (first | exact Keeps.refl _ _ | apply Keeps.drewN | apply Keeps.drew | apply Keeps.alloc))) _ [(0, 1)] (fun F hF => hs_new (hs := [(0, 1)]) (Blk.newAt (by simp)) (fun hx => by have := hF _ hx; omega) (by simp)) (by simp) (by simp)).mono ?_
      rw [q5, q6]
      rintro e w13 ⟨rfl, hs13⟩
      have HS13 := hid hs13
      obtain ⟨k2, k3⟩ := hs13.hcells
      clear hs13
      go_wp2_with (first
        | (go_at_call 54; refine (wait_S HS13.out (Keeps.refl [] _) (by simp) _ [] (fun F hF => CellsIn.nil _ _)).mono ?_; rw [q4, pickE_nil]; rintro e w14 ⟨v14, rfl, hs14⟩; have hev := hs14.row (r := (v14, [])) (by simp); simp only at hev; obtain ⟨EA', ec', rfl, he1', he2'⟩ := hev.shape; obtain ⟨k4, k5⟩ := hs14.hcells; simp only [List.length_nil] at he1' ⊢; have HS14 := hid hs14.less; clear hs14 hev)
        | (go_at_call 52; refine (change_none HS14.out 0 1 true true rfl).mono ?_; rintro e w15 ⟨rfl, hs15⟩; have HS15 := hid hs15; clear hs15)
        | (go_at_call 55; refine (watched_S HS15.out).mono ?_; rintro e w16 ⟨rfl, hs16⟩; have HS16 := hid hs16; clear hs16)
        | (go_at_call 56; refine (pknown_any _).mono ?_; rintro e w17 ⟨rfl, hk17⟩))
      go_ret
      exact ⟨rfl, (HS16.out.keepsW.trans hk17 (by simp)).below (Nat.le_refl _) (by simp)⟩
  · as_aux_lemma =>
      have hs12 : PS w wc pb nb (qO came op) edL [((0, 1), qD rd wr)] [(v, [qE true true])] [((w5.heap.size, 1), .int .i64 1), ((w5.heap.size, 0), .int .i64 0)] := HS.out
      clear HS
      have hev := hs12.row (r := (v, [qE true true])) (by simp)
      simp only at hev
      obtain ⟨EA, ec, rfl, he1, he2⟩ := hev.shape
      obtain ⟨eb, eo, rfl, -, hec⟩ := hev.at_ (by simp)
      obtain ⟨d0, d1, d2, d3, d4⟩ := hec 0 _ rfl
      simp [qE] at d0 d1 d2 d3 d4
      clear hec
      obtain ⟨k0, k1⟩ := hs12.hcells
      have hck := hs12.cell
      simp only [List.length_cons, List.length_nil] at he1 ⊢
      have HS12 := hid hs12.less
      clear hs12 hev
      go_wp2_with fail
      go_quiet (fail)
      have p0 := fun o => alloc_cell k0 o
      have p1 := fun o => alloc_cell k1 o
      go_wp2_with fail
      refine (drop_S HS12.out (by (repeat (first | exact Keeps.refl _ _ | apply Keeps.drewN | apply Keeps.drew | apply Keeps.alloc))) _ [(0, 1)] (fun F hF => hs_new (hs := [(0, 1)]) (Blk.newAt (by simp)) (fun hx => by have := hF _ hx; omega) (by simp)) (by simp) (by simp)).mono ?_
      rw [q5, q6]
      rintro e w13 ⟨rfl, hs13⟩
      have HS13 := hid hs13
      obtain ⟨k2, k3⟩ := hs13.hcells
      clear hs13
      go_wp2_with (first
        | (go_at_call 54; refine (wait_S HS13.out (Keeps.refl [] _) (by simp) _ [] (fun F hF => CellsIn.nil _ _)).mono ?_; rw [q4, pickE_nil]; rintro e w14 ⟨v14, rfl, hs14⟩; have hev := hs14.row (r := (v14, [])) (by simp); simp only at hev; obtain ⟨EA', ec', rfl, he1', he2'⟩ := hev.shape; obtain ⟨k4, k5⟩ := hs14.hcells; simp only [List.length_nil] at he1' ⊢; have HS14 := hid hs14.less; clear hs14 hev)
        | (go_at_call 52; refine (change_none HS14.out 0 1 true true rfl).mono ?_; rintro e w15 ⟨rfl, hs15⟩; have HS15 := hid hs15; clear hs15)
        | (go_at_call 55; refine (watched_S HS15.out).mono ?_; rintro e w16 ⟨rfl, hs16⟩; have HS16 := hid hs16; clear hs16)
        | (go_at_call 56; refine (pknown_any _).mono ?_; rintro e w17 ⟨rfl, hk17⟩))
      go_ret
      exact ⟨rfl, (HS16.out.keepsW.trans hk17 (by simp)).below (Nat.le_refl _) (by simp)⟩
end Go.Proofs.Ytkeffebcmajhmaa
