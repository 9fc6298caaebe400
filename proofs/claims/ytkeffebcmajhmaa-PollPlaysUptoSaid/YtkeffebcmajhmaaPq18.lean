/- The reference's slab: Take, All by contract. -/
import Derived.Test.YtkeffebcmajhmaaPq17
namespace Go.Proofs.Ytkeffebcmajhmaa
open Go.RowKit
set_option linter.unusedVariables false
set_option maxRecDepth 100000 in
set_option maxHeartbeats 1000000 in
theorem rstake_any (x : Nat) (F : List Nat) (lim n : Int) (L : List Slot) (pv : Value) (hs : List (Int × Int)) (w : World) (h : RS w x F lim L n) (hp : HsIn w F pv hs) (hhs : hs.length ≤ 1099511627776) (hn0 : -1099511627776 ≤ n) (hn1 : n ≤ 1099511627776) :
    Calls Try.prog 28 #[.pointer (some ⟨x, 0, none⟩), pv] w fun e w' => e = .returned (.int .i64 (takeAll L hs).2) ∧ RS w' x F lim (takeAll L hs).1 (n - (takeAll L hs).2) ∧ Keeps F w w' := by
  have HP := hid hp
  obtain ⟨A, c, rfl, hp1, hp2⟩ := hp.shape
  have H := hid h
  clear hp h
  go_enter Try.func28, Try.ntmps28
  go_wp2_with fail
  go_loopw [5, 6] (fun m i wr => ∃ (k M : Nat) (L' : List Slot), k ≤ hs.length ∧ i = .int .i64 k ∧ takeAll L (hs.take k) = (L', M) ∧ M ≤ k ∧ m = .int .i64 M ∧ RS wr x F lim L' (n - M) ∧ Keeps F w wr) (fun _ i _ => hs.length - (intOf i).toNat)
  case atStart => exact ⟨0, 0, L, Nat.zero_le _, rfl, by simp [takeAll], Nat.le_refl _, rfl, by simpa using H.out, Keeps.refl _ _⟩
  case round =>
    obtain ⟨k, M, L', hk, rfl, hM, hMk, rfl, hr, hkp⟩ := hrel
    by_cases hlt : k < hs.length
    · obtain ⟨hh, hhk⟩ : ∃ hh, hs[k]? = some hh := ⟨hs[k], by simp [hlt]⟩
      obtain ⟨pb, po, rfl, hpb, hpc⟩ := (HP.out.keeps hkp (fun j hj => .inl hj)).at_ (by omega)
      obtain ⟨d0, d1⟩ := hpc k hh hhk
      obtain ⟨hi, hg⟩ := hh
      simp only at d0 d1
      have hstep : takeAll L (hs.take (k + 1)) = take1 (L', M) (hi, hg) := by
        rw [List.take_add_one, hhk, Option.toList, takeAll_snoc, hM]
      have HM := hid hM
      have HS := hid hstep
      have hki : (k : Int) < hs.length := by omega
      have HR := hid hr
      clear hM hstep hpc hhk
      obtain ⟨y, hy⟩ : ∃ y, live L' hi hg = y := ⟨_, rfl⟩
      cases y with
      | none =>
        have HT : Hid (take1 (L', M) (hi, hg) = (L', M)) := hid (by unfold take1; simp only; rw [hy])
        have HY := hid hy
        clear hy hr
        go_wp2_with fail
        refine (ris_dead x F lim (n - M) L' hi hg _ HR.out HY.out).mono ?_
        rintro e w1 ⟨rfl, hk1⟩
        go_wp2_with fail
        go_roundw
        case rel => exact ⟨k + 1, M, L', by omega, by go_num, by rw [HS.out, HT.out], by omega, rfl, HR.out.keeps hk1 (by simp), hkp.trans hk1 (by simp)⟩
        case measure => simp [intOf] <;> omega
      | some y =>
        obtain ⟨j, v⟩ := y
        obtain ⟨rfl, hd⟩ := live_some hy
        have HT : Hid (take1 (L', M) ((j : Int), hg) = (L'.set j (hg, false, v), M + 1)) := hid (by unfold take1; simp only; rw [hy])
        have hjl : j < L'.length := (List.getElem?_eq_some_iff.1 hd).1
        have hji : (j : Int) < L'.length := by omega
        have HD := hid hd
        clear hy hr hd
        go_wp2_with fail
        refine (ris_live x F lim (n - M) L' j hg v _ HR.out HD.out).mono ?_
        rintro e w1 ⟨rfl, hk1⟩
        have hr1 := HR.out.keeps hk1 (by simp)
        obtain ⟨UA, uc, GA, gc, VA, vc, h1, h2, h3, hc⟩ := hr1.opened
        obtain ⟨ub, uo, gb, go, vb, vo, rfl, rfl, rfl, hcc⟩ := hc (by omega)
        obtain ⟨c1, -, -⟩ := hcc j _ HD.out
        simp only at c1
        have e0 := cell_keep hk1 (by simp) d0
        obtain ⟨hbF, hbx, hfz, hst⟩ := hr1.setUsed h1 HD.out
        obtain ⟨m2, -, mf, hxF, -⟩ := hr1.cN
        have f1 := hfz (uo + j)
        have f2 := mf 4
        have HST := hid (hst false)
        have HK := hid hk1
        clear h2 h3 hc hcc hst hfz hk1 mf hr1 d0 d1
        go_wp2_with fail
        go_region_law (fail)
        all_goals
          go_wp2_with fail
          go_roundw
          case rel =>
            refine ⟨k + 1, M + 1, L'.set j (hg, false, v), by omega, by go_num, by rw [HS.out, HT.out], by omega, by go_num, ?_, (((hkp.trans (HK.out.mono (G := F) (by simp)) (fun j hj => .inl hj)).setCell (p := ⟨ub, uo + j, none⟩) (.inl hbF) _).setCell (p := ⟨x, 4, none⟩) (.inl hxF) _).drew⟩
            have h5 := (HST.out.setN (n - ((M + 1 : Nat) : Int))).keeps ((Keeps.refl [] _).drew) (by simp)
            have e : n - (M : Int) - 1 = n - ((M + 1 : Nat) : Int) := by omega
            rw [e]
            exact h5
          case measure => simp [intOf] <;> omega
    · have hkl : k = hs.length := by omega
      subst hkl
      rw [List.take_length] at hM
      have HM := hid hM
      clear hM
      go_wp2
      go_ret
      rw [HM.out]
      exact ⟨rfl, hr, hkp⟩
set_option maxRecDepth 100000 in
set_option maxHeartbeats 1000000 in
theorem rsall_any (x : Nat) (F : List Nat) (lim n : Int) (L : List Slot) (w : World) (h : RS w x F lim L n) (hL : L.length ≤ 1099511627776) :
    Calls Try.prog 32 #[.pointer (some ⟨x, 0, none⟩)] w fun e w' => NewHs w (allFrom 0 L) e w' ∧ Keeps [] w w' := by
  obtain ⟨i1, hi1, hy0, hy1, hy2⟩ := info_parts handle_info
  have H := hid h
  clear h
  go_enter Try.func32, Try.ntmps32
  go_wp2_with fail
  go_loopw [3, 4] (fun l i wr => ∃ (k : Nat) (q : List (Int × Int)), k ≤ L.length ∧ i = .int .i64 k ∧ allFrom 0 (L.take k) = q ∧ q.length ≤ k ∧ Row wr 30 2 l q.length (handlesV q) ∧ (∀ j, l.ownBlock = some j → w.heap.size ≤ j) ∧ Keeps [] w wr) (fun _ i _ => L.length - (intOf i).toNat)
  case atStart => exact ⟨0, [], Nat.zero_le _, rfl, by simp [allFrom], Nat.le_refl _, Row.nil _ _ _, by simp [Value.ownBlock], Keeps.refl _ _⟩
  case round =>
    obtain ⟨k, q, hk, rfl, hq, hqk, hrow, hob, hkp⟩ := hrel
    have HROW := hid hrow
    have HOB := hid hob
    have HQ := hid hq
    obtain ⟨LA, lc, rfl, -⟩ := hrow.form
    obtain ⟨UA, uc, GA, gc, VA, vc, h1, h2, h3, hc⟩ := (H.out.keeps hkp (by simp)).opened
    clear hrow hob hq h3
    by_cases hlt : k < L.length
    · obtain ⟨d, hd⟩ : ∃ d, L[k]? = some d := ⟨L[k], List.getElem?_eq_getElem hlt⟩
      obtain ⟨ub, uo, gb, go, vb, vo, rfl, rfl, rfl, hcc⟩ := hc (by omega)
      obtain ⟨d0, d1, -⟩ := hcc k d hd
      have hstep : allFrom 0 (L.take (k + 1)) = q ++ (if d.2.1 = true then [(((k : Nat) : Int), d.1)] else []) := by
        rw [List.take_add_one, hd, Option.toList, allFrom_snoc, HQ.out, List.length_take, Nat.min_eq_left (by omega), Nat.zero_add]
      have HS := hid hstep
      have hki : (k : Int) < L.length := by omega
      have hq40 : q.length ≤ 1099511627776 := by omega
      obtain ⟨dg, du, dv⟩ := d
      simp only at d0 d1
      clear hstep hcc hd hc
      cases du with
      | false =>
        go_wp2_with fail
        go_roundw
        case rel => exact ⟨k + 1, q, by omega, by go_num, by rw [HS.out]; simp, by omega, HROW.out, HOB.out, hkp⟩
        case measure => simp [intOf] <;> omega
      | true =>
        go_wp2_with (at_builtin; refine wpList_append_row _ rfl (.tmp 21) (.tmp 31) _ rfl 30 i1 _ 2 16 Try.underlying28 hi1 hy0 hy1 hy2 rfl (by omega) (.slice LA q.length lc) q.length _ rfl (HROW.out.alloc _) (some ⟨wr.heap.size, 0, none⟩) 1 1 [.int .i64 k, .int .i64 dg] rfl (reads_blk2 (Blk.newAt (by simp))) (by simp [Value.oneCell']) (by simp only [maxLen]; omega) (by omega) ?_; intro v2 w2 hv2 hk2 ho2; have HV2 := hid hv2; have HK2 := hid hk2; have HO2 := hid ho2; clear hv2 hk2 ho2)
        go_roundw
        case rel =>
          have hv := HV2.out
          rw [show handlesV q ++ [Value.int .i64 k, .int .i64 dg] = handlesV (q ++ [((k : Int), dg)]) by simp [handlesV], show q.length + 1 = (q ++ [((k : Int), dg)]).length by simp] at hv
          refine ⟨k + 1, q ++ [((k : Int), dg)], by omega, by go_num, by rw [HS.out]; simp, by simp; omega, hv, fun j hj => ?_, (hkp.alloc _).trans HK2.out (fun j hj => .inr (HOB.out j (by simpa using hj)))⟩
          rcases HO2.out j hj with h | h
          · exact HOB.out j h
          · have h5 := hkp.size
            simp at h
            omega
        case measure => simp [intOf] <;> omega
    · have hkl : k = L.length := by omega
      subst hkl
      have hq2 := HQ.out
      rw [List.take_length] at hq2
      subst hq2
      go_wp2
      go_ret
      exact ⟨⟨_, rfl, HROW.out, HOB.out⟩, hkp⟩
end Go.Proofs.Ytkeffebcmajhmaa
/- The reference's slab: Put by contract. -/
namespace Go.Proofs.Ytkeffebcmajhmaa
open Go.RowKit
set_option linter.unusedVariables false
theorem cell_far {w : World} {p q : Addr} {v u : Value} (h : w.cell? p = some v) (hne : p.block ≠ q.block) : (w.setCell q u).cell? p = some v :=
  (World.cell?_of_block (w := w) (Below.heap_setCell w q u p.block hne)).trans h
/-- the blocks of the three rows are apart. -/
theorem RS.apart {w : World} {x : Nat} {F : List Nat} {lim n : Int} {L : List Slot} (h : RS w x F lim L n) {ub uo uc gb go gc vb vo vc : Nat} (hU : w.cell? ⟨x, 1, none⟩ = some (.slice (some ⟨ub, uo, none⟩) L.length uc)) (hG : w.cell? ⟨x, 2, none⟩ = some (.slice (some ⟨gb, go, none⟩) L.length gc)) (hV : w.cell? ⟨x, 3, none⟩ = some (.slice (some ⟨vb, vo, none⟩) L.length vc)) :
    ub ≠ gb ∧ ub ≠ vb ∧ gb ≠ vb ∧ ub ≠ x ∧ gb ≠ x ∧ vb ≠ x ∧ ub ∈ F ∧ gb ∈ F ∧ vb ∈ F ∧ L.length ≤ uc ∧ L.length ≤ gc ∧ L.length ≤ vc := by
  obtain ⟨vu, vg, vv, h1, h2, h3, h4, h5, h6, h7, h8, h9, h10⟩ := h
  have e1 := h1.cell 1
  have e2 := h1.cell 2
  have e3 := h1.cell 3
  rw [hU] at e1
  rw [hG] at e2
  rw [hV] at e3
  simp at e1 e2 e3
  subst e1 e2 e3
  obtain ⟨_, _, a1, a2, -⟩ := h2.form
  obtain ⟨_, _, b1, b2, -⟩ := h3.form
  obtain ⟨_, _, c1, c2, -⟩ := h4.form
  injection a1 with _ _ a1
  injection b1 with _ _ b1
  injection c1 with _ _ c1
  subst a1 b1 c1
  refine ⟨fun e => ?_, fun e => ?_, fun e => ?_, fun e => ?_, fun e => ?_, fun e => ?_, h7 _ rfl, h8 _ rfl, h9 _ rfl, a2, b2, c2⟩
  · exact h2.disj h3 (by decide) ub rfl (by simp [Value.ownBlock, e])
  · exact h2.disj h4 (by decide) ub rfl (by simp [Value.ownBlock, e])
  · exact h10 gb rfl (by simp [Value.ownBlock, e])
  · exact h2.blk_ne h1 (by decide) ub rfl e
  · exact h3.blk_ne h1 (by decide) gb rfl e
  · exact h4.blk_ne h1 (by decide) vb rfl e
theorem RS.puts {w : World} {x : Nat} {F : List Nat} {lim n : Int} {L : List Slot} (h : RS w x F lim L n) {ub uo uc gb go gc vb vo vc j : Nat} {d : Slot} (hU : w.cell? ⟨x, 1, none⟩ = some (.slice (some ⟨ub, uo, none⟩) L.length uc)) (hG : w.cell? ⟨x, 2, none⟩ = some (.slice (some ⟨gb, go, none⟩) L.length gc)) (hV : w.cell? ⟨x, 3, none⟩ = some (.slice (some ⟨vb, vo, none⟩) L.length vc))
    (hd : L[j]? = some d) (v : Int) : RS ((((w.setCell ⟨ub, uo + j, none⟩ (.bool true)).setCell ⟨gb, go + j, none⟩ (.int .i64 (d.1 + 1))).setCell ⟨vb, vo + j, none⟩ (.int .i64 v)).setCell ⟨x, 4, none⟩ (.int .i64 (n + 1))) x F lim (L.set j (d.1 + 1, true, v)) (n + 1) := by
  obtain ⟨-, -, -, hux, hgx, hvx, -⟩ := h.apart hU hG hV
  have hjl : j < L.length := (List.getElem?_eq_some_iff.1 hd).1
  obtain ⟨-, -, -, s1⟩ := h.setUsed hU hd
  have r1 := s1 true
  have hd1 : (L.set j (d.1, true, d.2.2))[j]? = some (d.1, true, d.2.2) := by simp [hjl]
  have hG1 := cell_far (q := ⟨ub, uo + j, none⟩) (u := .bool true) hG (Ne.symm hux)
  have hV1 := cell_far (q := ⟨ub, uo + j, none⟩) (u := .bool true) hV (Ne.symm hux)
  obtain ⟨-, -, -, s2⟩ := r1.setGen (gb := gb) (go := go) (gc := gc) (by simpa using hG1) hd1
  have r2 := s2 (d.1 + 1)
  have hd2 : ((L.set j (d.1, true, d.2.2)).set j (d.1 + 1, true, d.2.2))[j]? = some (d.1 + 1, true, d.2.2) := by simp [hjl]
  have hV2 := cell_far (q := ⟨gb, go + j, none⟩) (u := .int .i64 (d.1 + 1)) hV1 (Ne.symm hgx)
  obtain ⟨-, -, -, s3⟩ := r2.setVal (vb := vb) (vo := vo) (vc := vc) (by simpa using hV2) hd2
  have r3 := (s3 v).setN (n + 1)
  rw [List.set_set, List.set_set] at r3
  exact r3
theorem rsput_full (x : Nat) (F : List Nat) (lim : Int) (L : List Slot) (v n : Int) (w : World) (h : RS w x F lim L n) (hn : lim ≤ n) :
    Calls Try.prog 26 #[.pointer (some ⟨x, 0, none⟩), .int .i64 v] w fun e w' => e = .returned (.tuple #[.agg #[.int .i64 0, .int .i64 0], .int .i64 3]) ∧ Keeps [] w w' := by
  obtain ⟨c4, c0, -⟩ := h.cN
  have n0 := fun o => alloc_cell c0 o
  have n4 := fun o => alloc_cell c4 o
  clear h c4 c0
  go_enter Try.func26, Try.ntmps26
  go_wp2_with fail
  go_quiet (fail)
  go_wp2
  exact bodyPost_ret (v := .tuple #[.agg #[.int .i64 0, .int .i64 0], .int .i64 3]) (by simp [results, Try.results26, go_sem]) rfl ⟨rfl, by (repeat (first | exact Keeps.refl _ _ | exact .inr (Nat.le_refl _) | apply Keeps.drewN | apply Keeps.alloc | apply Keeps.setCell))⟩
def RPut (w : World) (s : Nat) (F : List Nat) (lim n v : Int) (L : List Slot) (e : Ending) (w' : World) : Prop :=
  e = .returned (.tuple #[.agg #[.int .i64 (freeAt L : Nat), .int .i64 (putG L)], .int .i64 0]) ∧ (∃ F', RS w' s F' lim (putL L v) (n + 1) ∧ Later F w F') ∧ Keeps F w w'
theorem rput_done {w : World} {x ub uo uc gb go gc vb vo vc j m : Nat} {F : List Nat} {lim n : Int} {L : List Slot} {d : Slot} {o : Obj} (h : RS w x F lim L n) (hx : x ∈ F) (hu : ub ∈ F) (hg : gb ∈ F) (hvb : vb ∈ F) (hd : L[j]? = some d)
    (hU : (w.alloc o).cell? ⟨x, 1, none⟩ = some (.slice (some ⟨ub, uo, none⟩) L.length uc)) (hG : (w.alloc o).cell? ⟨x, 2, none⟩ = some (.slice (some ⟨gb, go, none⟩) L.length gc)) (hV : (w.alloc o).cell? ⟨x, 3, none⟩ = some (.slice (some ⟨vb, vo, none⟩) L.length vc)) (v : Int) {y z : Value} :
    (∃ F', RS ((((((((w.alloc o).drewN m).setCell ⟨ub, uo + j, none⟩ (.bool true)).setCell ⟨gb, go + j, none⟩ (.int .i64 (d.1 + 1))).setCell ⟨vb, vo + j, none⟩ (.int .i64 v)).setCell ⟨x, 4, none⟩ (.int .i64 (n + 1))).setCell ⟨w.heap.size, 0, none⟩ y).setCell ⟨w.heap.size, 1, none⟩ z) x F' lim (L.set j (d.1 + 1, true, v)) (n + 1) ∧ Later F w F') ∧
      Keeps F w ((((((((w.alloc o).drewN m).setCell ⟨ub, uo + j, none⟩ (.bool true)).setCell ⟨gb, go + j, none⟩ (.int .i64 (d.1 + 1))).setCell ⟨vb, vo + j, none⟩ (.int .i64 v)).setCell ⟨x, 4, none⟩ (.int .i64 (n + 1))).setCell ⟨w.heap.size, 0, none⟩ y).setCell ⟨w.heap.size, 1, none⟩ z) := by
  have h0 : RS ((w.alloc o).drewN m) x F lim L n := h.keeps (((Keeps.refl [] w).alloc o).drewN m) (by simp)
  have h1 := h0.puts hU hG hV hd v
  have hw : ∀ k ∈ F, k ∉ [w.heap.size] := fun k hk hx => by
    have := h.flt k hk
    simp at hx
    omega
  refine ⟨⟨F, h1.keeps (((Keeps.refl [w.heap.size] _).setCell (p := ⟨w.heap.size, 0, none⟩) (.inl (by simp)) y).setCell (p := ⟨w.heap.size, 1, none⟩) (.inl (by simp)) z) hw, Later.refl _ _⟩, ?_⟩
  exact ((((((((Keeps.refl F w).alloc o).drewN m).setCell (.inl hu) _).setCell (.inl hg) _).setCell (.inl hvb) _).setCell (.inl hx) _).setCell (.inr (Nat.le_refl _)) _).setCell (.inr (Nat.le_refl _)) _
set_option maxRecDepth 100000 in
set_option maxHeartbeats 1000000 in
theorem rsput_old (x : Nat) (F : List Nat) (lim n : Int) (L : List Slot) (d : Slot) (v : Int) (w : World) (h : RS w x F lim L n) (hn : n < lim) (hL : L.length ≤ 1099511627776) (hd : L[freeAt L]? = some d) (hg0 : 0 ≤ d.1) (hg1 : d.1 ≤ 1099511627776) (hn0 : -1099511627776 ≤ n) (hn1 : n ≤ 1099511627776) :
    Calls Try.prog 26 #[.pointer (some ⟨x, 0, none⟩), .int .i64 v] w (RPut w x F lim n v L) := by
  obtain ⟨c4, c0, hfx, hxF, hxl⟩ := h.cN
  have H := hid h
  obtain ⟨UA, uc, GA, gc, VA, vc, h1, h2, h3, hc⟩ := h.opened
  obtain ⟨k, hk⟩ : ∃ k, freeAt L = k := ⟨_, rfl⟩
  have hkl : k < L.length := by rw [← hk]; exact (List.getElem?_eq_some_iff.1 hd).1
  obtain ⟨ub, uo, gb, go, vb, vo, rfl, rfl, rfl, hcc⟩ := hc (by omega)
  obtain ⟨hug, huv, hgv, hux, hgx, hvx, huF, hgF, hvF, -⟩ := h.apart h1 h2 h3
  have HU : Hid (∀ j, j < k → w.cell? ⟨ub, uo + j, none⟩ = some (.bool true)) := by
    refine hid fun j hj => ?_
    have h3 := (hcc j (L[j]'(by omega)) (List.getElem?_eq_getElem (by omega))).1
    rw [freeAt_used (by omega) (List.getElem?_eq_getElem (by omega))] at h3
    exact h3
  rw [hk] at hd
  obtain ⟨g0, g1, g2⟩ := hcc k d hd
  rw [freeAt_free (by rw [hk]; exact hd)] at g0
  obtain ⟨-, -, fu, -⟩ := h.setUsed h1 hd
  obtain ⟨-, -, fg, -⟩ := h.setGen h2 hd
  obtain ⟨-, -, fv, -⟩ := h.setVal h3 hd
  have n0 := fun o => alloc_cell c0 o
  have n1 := fun o => alloc_cell h1 o
  have n2 := fun o => alloc_cell h2 o
  have n3 := fun o => alloc_cell h3 o
  have n4 := fun o => alloc_cell c4 o
  have n5 := fun o => alloc_cell g0 o
  have n6 := fun o => alloc_cell g1 o
  have n7 := fun o => alloc_cell g2 o
  have HD := hid hd
  have HK := hid hk
  have hul : ub < w.heap.size := h.flt ub huF
  have hgl : gb < w.heap.size := h.flt gb hgF
  have hvl : vb < w.heap.size := h.flt vb hvF
  have hki : (k : Int) < L.length := by omega
  clear h hc hcc c0 c4 h1 h2 h3 g0 g1 g2 hd hk
  unfold RPut putL putG
  rw [HK.out, HD.out]
  simp only
  have hw1 : IntKind.i64.wrap (d.1 + 1) = d.1 + 1 := IntWalk.i64_in _ (by omega)
  go_enter Try.func26, Try.ntmps26
  go_wp2_with fail
  go_quiet (fail)
  go_wp2_with fail
  go_loop [6] (fun i => ∃ j : Nat, j ≤ k ∧ i = .int .i64 j) (fun i => L.length - (intOf i).toNat)
  case atStart => exact ⟨0, Nat.zero_le _, rfl⟩
  case round =>
    obtain ⟨j, hj, rfl⟩ := hrel
    by_cases hlt : j < k
    · have hcj := fun o => alloc_cell (HU.out j hlt) o
      have hji : (j : Int) < L.length := by omega
      go_wp2_with fail
      go_round
      case rel => exact ⟨j + 1, by omega, by go_num⟩
      case measure => simp [intOf] <;> omega
    · have hji : j = k := by omega
      subst hji
      have hjn : ((j : Int) == L.length) = false := by simp; omega
      go_wp2_with fail
      refine bodyPost_ret (v := .tuple #[.agg #[.int .i64 j, .int .i64 (d.1 + 1)], .int .i64 0]) (by simp [results, Try.results26, go_sem]) rfl ⟨rfl, ?_⟩
      exact rput_done H.out hxF huF hgF hvF HD.out (n1 _) (n2 _) (n3 _) v
end Go.Proofs.Ytkeffebcmajhmaa
/- The reference's slab: Put of a new slot. -/
namespace Go.Proofs.Ytkeffebcmajhmaa
open Go.RowKit
set_option linter.unusedVariables false
/-- the three rows, each of a length of its own. -/
def R3 (w : World) (x : Nat) (F : List Nat) (lim : Int) (vu vg vv : Value) (nu ng nv : Nat) (us gs vs : List Value) (n : Int) : Prop :=
  Blk w x 53 #[.int .i64 lim, vu, vg, vv, .int .i64 n] ∧ Row w 4 1 vu nu us ∧ Row w 3 1 vg ng gs ∧ Row w 3 1 vv nv vs ∧
    (∀ k ∈ F, k < w.heap.size) ∧ x ∈ F ∧ (∀ k, vu.ownBlock = some k → k ∈ F) ∧ (∀ k, vg.ownBlock = some k → k ∈ F) ∧ (∀ k, vv.ownBlock = some k → k ∈ F) ∧ (∀ k, vg.ownBlock = some k → vv.ownBlock ≠ some k)
section
variable {w w1 : World} {x nu ng nv m : Nat} {F : List Nat} {lim n : Int} {vu vg vv v' : Value} {us gs vs xs : List Value}
theorem R3.keeps {K : List Nat} (h : R3 w x F lim vu vg vv nu ng nv us gs vs n) (hk : Keeps K w w1) (hd : ∀ k ∈ F, k ∉ K) : R3 w1 x F lim vu vg vv nu ng nv us gs vs n := by
  obtain ⟨h1, h2, h3, h4, h5, h6, h7, h8, h9, h10⟩ := h
  exact ⟨h1.keeps hk (hd _ h6), h2.keeps hk (fun k e => hd _ (h7 k e)), h3.keeps hk (fun k e => hd _ (h8 k e)), h4.keeps hk (fun k e => hd _ (h9 k e)), fun k e => Nat.lt_of_lt_of_le (h5 k e) hk.size, h6, h7, h8, h9, h10⟩
theorem R3.flt_ (h : R3 w x F lim vu vg vv nu ng nv us gs vs n) (i : Nat) (hr : Row w1 4 1 v' m xs ∨ Row w1 3 1 v' m xs) {K : List Nat} (hk : Keeps K w w1) : ∀ k ∈ F ++ v'.ownBlock.toList, k < (w1.setCell ⟨x, i, none⟩ v').heap.size := by
  obtain ⟨h1, h2, h3, h4, h5, -⟩ := h
  intro k hx
  rw [List.mem_append] at hx
  have hs := hk.size
  rcases hx with hx | hx
  · have := h5 k hx; simp [World.setCell]; omega
  · rcases hr with hr | hr
    · have := hr.lt k (by simpa using hx); simpa [World.setCell] using this
    · have := hr.lt k (by simpa using hx); simpa [World.setCell] using this
theorem later_own {v : Value} (hv : ∀ k, v.ownBlock = some k → k ∈ F) (ho : ∀ k, v'.ownBlock = some k → v.ownBlock = some k ∨ w.heap.size ≤ k) : Later F w (F ++ v'.ownBlock.toList) := by
  intro k hx
  rw [List.mem_append] at hx
  rcases hx with hx | hx
  · exact .inl hx
  · rcases ho k (by simpa using hx) with h | h
    · exact .inl (hv k h)
    · exact .inr h
theorem R3.pushU (h : R3 w x F lim vu vg vv nu ng nv us gs vs n) (hr : Row w1 4 1 v' m xs) (hk : Keeps vu.ownBlock.toList w w1) (ho : ∀ k, v'.ownBlock = some k → vu.ownBlock = some k ∨ w.heap.size ≤ k) :
    Blk w1 x 53 #[.int .i64 lim, vu, vg, vv, .int .i64 n] ∧ R3 (w1.setCell ⟨x, 1, none⟩ v') x (F ++ v'.ownBlock.toList) lim v' vg vv m ng nv xs gs vs n ∧ Keeps F w (w1.setCell ⟨x, 1, none⟩ v') ∧ Later F w (F ++ v'.ownBlock.toList) := by
  have hl := h.flt_ 1 (.inl hr) hk
  obtain ⟨h1, h2, h3, h4, h5, h6, h7, h8, h9, h10⟩ := h
  have ha : x ∉ vu.ownBlock.toList := fun hx => h2.blk_ne h1 (by decide) x (by simpa using hx) rfl
  have hb1 := h1.keeps hk ha
  have q3 := h3.keeps hk (fun k e hx => h3.disj h2 (by decide) k e (by simpa using hx))
  have q4 := h4.keeps hk (fun k e hx => h4.disj h2 (by decide) k e (by simpa using hx))
  exact ⟨hb1, ⟨hb1.set_ 1 v', hr.far (fun k e => hr.blk_ne hb1 (by decide) k e) _, q3.far (fun k e => q3.blk_ne hb1 (by decide) k e) _, q4.far (fun k e => q4.blk_ne hb1 (by decide) k e) _, hl, by simp [h6], fun k e => by simp [e], fun k e => by simp [h8 k e], fun k e => by simp [h9 k e], h10⟩,
    (hk.mono (fun g hg => h7 g (by simpa using hg))).setCell (.inl h6) _, later_own h7 ho⟩
theorem R3.pushG (h : R3 w x F lim vu vg vv nu ng nv us gs vs n) (hr : Row w1 3 1 v' m xs) (hk : Keeps vg.ownBlock.toList w w1) (ho : ∀ k, v'.ownBlock = some k → vg.ownBlock = some k ∨ w.heap.size ≤ k) :
    Blk w1 x 53 #[.int .i64 lim, vu, vg, vv, .int .i64 n] ∧ R3 (w1.setCell ⟨x, 2, none⟩ v') x (F ++ v'.ownBlock.toList) lim vu v' vv nu m nv us xs vs n ∧ Keeps F w (w1.setCell ⟨x, 2, none⟩ v') ∧ Later F w (F ++ v'.ownBlock.toList) := by
  have hl := h.flt_ 2 (.inr hr) hk
  obtain ⟨h1, h2, h3, h4, h5, h6, h7, h8, h9, h10⟩ := h
  have ha : x ∉ vg.ownBlock.toList := fun hx => h3.blk_ne h1 (by decide) x (by simpa using hx) rfl
  have hb1 := h1.keeps hk ha
  have q2 := h2.keeps hk (fun k e hx => h2.disj h3 (by decide) k e (by simpa using hx))
  have q4 := h4.keeps hk (fun k e hx => h10 k (by simpa using hx) e)
  exact ⟨hb1, ⟨hb1.set_ 2 v', q2.far (fun k e => q2.blk_ne hb1 (by decide) k e) _, hr.far (fun k e => hr.blk_ne hb1 (by decide) k e) _, q4.far (fun k e => q4.blk_ne hb1 (by decide) k e) _, hl, by simp [h6], fun k e => by simp [h7 k e], fun k e => by simp [e], fun k e => by simp [h9 k e], fun k e he => by
      rcases ho k e with h | h
      · exact h10 k h he
      · have := h4.lt k he
        omega⟩,
    (hk.mono (fun g hg => h8 g (by simpa using hg))).setCell (.inl h6) _, later_own h8 ho⟩
theorem R3.pushV (h : R3 w x F lim vu vg vv nu ng nv us gs vs n) (hr : Row w1 3 1 v' m xs) (hk : Keeps vv.ownBlock.toList w w1) (ho : ∀ k, v'.ownBlock = some k → vv.ownBlock = some k ∨ w.heap.size ≤ k) :
    Blk w1 x 53 #[.int .i64 lim, vu, vg, vv, .int .i64 n] ∧ R3 (w1.setCell ⟨x, 3, none⟩ v') x (F ++ v'.ownBlock.toList) lim vu vg v' nu ng m us gs xs n ∧ Keeps F w (w1.setCell ⟨x, 3, none⟩ v') ∧ Later F w (F ++ v'.ownBlock.toList) := by
  have hl := h.flt_ 3 (.inr hr) hk
  obtain ⟨h1, h2, h3, h4, h5, h6, h7, h8, h9, h10⟩ := h
  have ha : x ∉ vv.ownBlock.toList := fun hx => h4.blk_ne h1 (by decide) x (by simpa using hx) rfl
  have hb1 := h1.keeps hk ha
  have q2 := h2.keeps hk (fun k e hx => h2.disj h4 (by decide) k e (by simpa using hx))
  have q3 := h3.keeps hk (fun k e hx => h10 k e (by simpa using hx))
  exact ⟨hb1, ⟨hb1.set_ 3 v', q2.far (fun k e => q2.blk_ne hb1 (by decide) k e) _, q3.far (fun k e => q3.blk_ne hb1 (by decide) k e) _, hr.far (fun k e => hr.blk_ne hb1 (by decide) k e) _, hl, by simp [h6], fun k e => by simp [h7 k e], fun k e => by simp [h8 k e], fun k e => by simp [e], fun k e he => by
      rcases ho k he with h | h
      · exact h10 k e h
      · have := h3.lt k e
        omega⟩,
    (hk.mono (fun g hg => h9 g (by simpa using hg))).setCell (.inl h6) _, later_own h9 ho⟩
end
theorem rput_new_done {w W0 W3 : World} {x ub uo uc gb go gc vb vo vc : Nat} {F F3 : List Nat} {lim n v : Int} {L : List Slot} (h : RS w x F lim L n) (hk0 : Keeps F w W0) (hk3 : Keeps F W0 W3) (hl : Later F W0 F3)
    (hS : RS W3 x F3 lim (L ++ [((0 : Int), false, (0 : Int))]) n) (hU : W3.cell? ⟨x, 1, none⟩ = some (.slice (some ⟨ub, uo, none⟩) (L ++ [((0 : Int), false, (0 : Int))]).length uc)) (hG : W3.cell? ⟨x, 2, none⟩ = some (.slice (some ⟨gb, go, none⟩) (L ++ [((0 : Int), false, (0 : Int))]).length gc)) (hV : W3.cell? ⟨x, 3, none⟩ = some (.slice (some ⟨vb, vo, none⟩) (L ++ [((0 : Int), false, (0 : Int))]).length vc))
    (hr : w.heap.size ∉ F3) {y z : Value} :
    (∃ F', RS (((((((W3.setCell ⟨ub, uo + L.length, none⟩ (.bool true)).setCell ⟨gb, go + L.length, none⟩ (.int .i64 1)).setCell ⟨vb, vo + L.length, none⟩ (.int .i64 v)).setCell ⟨x, 4, none⟩ (.int .i64 (n + 1))).setCell ⟨w.heap.size, 0, none⟩ y).setCell ⟨w.heap.size, 1, none⟩ z)) x F' lim (L ++ [(1, true, v)]) (n + 1) ∧ Later F w F') ∧
      Keeps F w (((((((W3.setCell ⟨ub, uo + L.length, none⟩ (.bool true)).setCell ⟨gb, go + L.length, none⟩ (.int .i64 1)).setCell ⟨vb, vo + L.length, none⟩ (.int .i64 v)).setCell ⟨x, 4, none⟩ (.int .i64 (n + 1))).setCell ⟨w.heap.size, 0, none⟩ y).setCell ⟨w.heap.size, 1, none⟩ z)) := by
  have h1 := hS.puts hU hG hV (j := L.length) (d := (0, false, 0)) (by simp) v
  have e : (L ++ [((0 : Int), false, (0 : Int))]).set L.length (0 + 1, true, v) = L ++ [(1, true, v)] := by
    rw [List.set_append_right _ _ (Nat.le_refl _)]
    simp
  simp only [e] at h1
  obtain ⟨-, -, -, -, -, -, hu, hg, hv, -⟩ := hS.apart hU hG hV
  obtain ⟨-, -, -, hx, -⟩ := hS.cN
  have hw : ∀ k ∈ F3, k ∉ [w.heap.size] := fun k hk hx => by
    simp at hx
    subst hx
    exact hr hk
  have hl2 : Later F w F3 := fun k hk => by
    rcases hl k hk with h | h
    · exact .inl h
    · have := hk0.size
      exact .inr (by omega)
  refine ⟨⟨F3, h1.keeps (((Keeps.refl [w.heap.size] _).setCell (p := ⟨w.heap.size, 0, none⟩) (.inl (by simp)) y).setCell (p := ⟨w.heap.size, 1, none⟩) (.inl (by simp)) z) hw, hl2⟩, ?_⟩
  have hk := hk0.trans hk3 (fun k hk => .inl hk)
  exact (((((hk.setCell (hl2 _ hu) _).setCell (hl2 _ hg) _).setCell (hl2 _ hv) _).setCell (hl2 _ hx) _).setCell (.inr (Nat.le_refl _)) _).setCell (.inr (Nat.le_refl _)) _
set_option maxRecDepth 100000 in
set_option maxHeartbeats 2000000 in
theorem rsput_new (x : Nat) (F : List Nat) (lim n : Int) (L : List Slot) (v : Int) (w : World) (h : RS w x F lim L n) (hn : n < lim) (hL : L.length ≤ 1099511627776) (hd : freeAt L = L.length) (hn0 : -1099511627776 ≤ n) (hn1 : n ≤ 1099511627776) :
    Calls Try.prog 26 #[.pointer (some ⟨x, 0, none⟩), .int .i64 v] w (RPut w x F lim n v L) := by
  obtain ⟨i0, hi0, hz0, hz1, hz2⟩ := info_parts bool_info
  obtain ⟨i1, hi1, hy0, hy1, hy2⟩ := info_parts int_info
  obtain ⟨c4, c0, hfx, hxF, hxl⟩ := h.cN
  have H := hid h
  obtain ⟨vu, vg, vv, hr3⟩ := id h
  have hr3 : R3 w x F lim vu vg vv L.length L.length L.length (usedV L) (genV L) (valV L) n := hr3
  obtain ⟨UA, uc, rfl, -⟩ := hr3.2.1.form
  obtain ⟨GA, gc, rfl, -⟩ := hr3.2.2.1.form
  obtain ⟨VA, vc, rfl, -⟩ := hr3.2.2.2.1.form
  have h1 := hr3.1.cell 1
  simp at h1
  have HU : Hid (∀ j, j < L.length → ∃ b off, UA = some ⟨b, off, none⟩ ∧ w.cell? ⟨b, off + j, none⟩ = some (.bool true)) := by
    refine hid fun j hj => ?_
    obtain ⟨b, o, hu, -, hcu⟩ := (hr3.2.1.cellsIn (F := []) (by simp)).at_ (by simp [usedV]; omega)
    have hdj := List.getElem?_eq_getElem (l := L) (i := j) hj
    have h5 := hcu j (.bool (L[j]).2.1) (by simp [usedV, hdj])
    rw [freeAt_used (by omega) hdj] at h5
    exact ⟨b, o, hu, h5⟩
  have n0 := fun o => alloc_cell c0 o
  have n1 := fun o => alloc_cell h1 o
  have n4 := fun o => alloc_cell c4 o
  have HD := hid hd
  have HR3 := hid hr3
  clear h c0 c4 h1 hd hr3
  unfold RPut putL putG
  rw [HD.out, List.getElem?_eq_none (Nat.le_refl _)]
  simp only
  go_enter Try.func26, Try.ntmps26
  go_wp2_with fail
  go_quiet (fail)
  go_wp2_with fail
  go_loop [6] (fun i => ∃ j : Nat, j ≤ L.length ∧ i = .int .i64 j) (fun i => L.length - (intOf i).toNat)
  case atStart => exact ⟨0, Nat.zero_le _, rfl⟩
  case round =>
    obtain ⟨j, hj, rfl⟩ := hrel
    by_cases hlt : j < L.length
    · obtain ⟨b, off, rfl, hcj0⟩ := HU.out j hlt
      have hcj := fun o => alloc_cell hcj0 o
      have hji : (j : Int) < L.length := by omega
      clear hcj0
      go_wp2_with fail
      go_round
      case rel => exact ⟨j + 1, by omega, by go_num⟩
      case measure => simp [intOf] <;> omega
    · have hji : j = L.length := by omega
      subst hji
      have HB0 : Hid (Blk ((w.alloc (.cells #[.int .i64 0, .int .i64 0] 30)).drewN nq) w.heap.size 30 #[.int .i64 0, .int .i64 0]) := hid ((Blk.new w _ _).drewN _)
      have HR0 : Hid (R3 ((w.alloc (.cells #[.int .i64 0, .int .i64 0] 30)).drewN nq) x F lim (.slice UA L.length uc) (.slice GA L.length gc) (.slice VA L.length vc) L.length L.length L.length (usedV L) (genV L) (valV L) n) := hid (HR3.out.keeps (((Keeps.refl [] w).alloc _).drewN _) (by simp))
      have HK0 : Hid (Keeps F w ((w.alloc (.cells #[.int .i64 0, .int .i64 0] 30)).drewN nq)) := hid (((Keeps.refl F w).alloc _).drewN _)
      have hrF : w.heap.size ∉ F := fun hx => by have := H.out.flt _ hx; omega
      have HRF := hid hrF
      clear hrF
      go_upto_region 10 with (first
        | (at_builtin; refine wpList_append_row _ rfl (.tmp 46) (.tmp 47) _ rfl 4 i0 _ 1 1 Try.underlying51 hi0 hz0 hz1 hz2 rfl (by omega) (.slice UA L.length uc) L.length _ rfl (HR0.out.2.1.alloc _) (some ⟨w.heap.size + 1, 0, none⟩) 1 1 [.bool false] rfl (reads_blk1 (Blk.newAt (by simp))) (by simp [Value.oneCell']) (by simp only [maxLen]; omega) (by omega) ?_; intro v1 w1 hv1 hk1 ho1; obtain ⟨A1, q1, rfl, -⟩ := hv1.form; have ho1' : ∀ k, (Value.slice A1 (L.length + 1) q1).ownBlock = some k → (Value.slice UA L.length uc).ownBlock = some k ∨ ((w.alloc (.cells #[.int .i64 0, .int .i64 0] 30)).drewN nq).heap.size ≤ k := (fun k hk => by rcases ho1 k hk with h | h; exact .inl h; right; simp at h ⊢; omega); have hk1' := Keeps.trans ((Keeps.refl _ ((w.alloc (.cells #[.int .i64 0, .int .i64 0] 30)).drewN nq)).alloc (.cells #[.bool false] 4)) hk1 (fun j hj => .inl hj); obtain ⟨hb1, hp1, hkk1, hl1⟩ := HR0.out.pushU hv1 hk1' ho1'; have k1 := hb1.cell 1; have k2 := hb1.cell 2; have k3 := hb1.cell 3; have k4 := hb1.cell 4; have kf := hb1.frozen; simp at k1 k2 k3 k4; have HP1 := hid hp1; have HKK1 := hid hkk1; have HL1 := hid hl1; clear hv1 hk1 ho1 ho1' hk1' hb1 hp1 hkk1 hl1)
        | (at_builtin; refine wpList_append_row _ rfl (.tmp 55) (.tmp 56) _ rfl 3 i1 _ 1 8 Try.underlying22 hi1 hy0 hy1 hy2 rfl (by omega) (.slice GA L.length gc) L.length _ rfl (HP1.out.2.2.1.alloc _) (some ⟨w1.heap.size, 0, none⟩) 1 1 [.int .i64 0] rfl (reads_blk1 (Blk.newAt (by simp [World.setCell]))) (by simp [Value.oneCell']) (by simp only [maxLen]; omega) (by omega) ?_; intro v2 w2 hv2 hk2 ho2; obtain ⟨A2, q2, rfl, -⟩ := hv2.form; have ho2' : ∀ k, (Value.slice A2 (L.length + 1) q2).ownBlock = some k → (Value.slice GA L.length gc).ownBlock = some k ∨ (w1.setCell ⟨x, 1, none⟩ (.slice A1 (L.length + 1) q1)).heap.size ≤ k := (fun k hk => by rcases ho2 k hk with h | h; exact .inl h; right; simp at h ⊢; omega); have hk2' := Keeps.trans ((Keeps.refl _ (w1.setCell ⟨x, 1, none⟩ (.slice A1 (L.length + 1) q1))).alloc (.cells #[.int .i64 0] 3)) hk2 (fun j hj => .inl hj); obtain ⟨hb2, hp2, hkk2, hl2⟩ := HP1.out.pushG hv2 hk2' ho2'; have k5 := hb2.cell 2; have k6 := hb2.cell 3; have kg := hb2.frozen; simp at k5 k6; have HP2 := hid hp2; have HKK2 := hid hkk2; have HL2 := hid hl2; clear hv2 hk2 ho2 ho2' hk2' hb2 hp2 hkk2 hl2)
        | (at_builtin; refine wpList_append_row _ rfl (.tmp 64) (.tmp 65) _ rfl 3 i1 _ 1 8 Try.underlying22 hi1 hy0 hy1 hy2 rfl (by omega) (.slice VA L.length vc) L.length _ rfl (HP2.out.2.2.2.1.alloc _) (some ⟨w2.heap.size, 0, none⟩) 1 1 [.int .i64 0] rfl (reads_blk1 (Blk.newAt (by simp [World.setCell]))) (by simp [Value.oneCell']) (by simp only [maxLen]; omega) (by omega) ?_; intro v3 w3 hv3 hk3 ho3; obtain ⟨A3, q3, rfl, -⟩ := hv3.form; have ho3' : ∀ k, (Value.slice A3 (L.length + 1) q3).ownBlock = some k → (Value.slice VA L.length vc).ownBlock = some k ∨ (w2.setCell ⟨x, 2, none⟩ (.slice A2 (L.length + 1) q2)).heap.size ≤ k := (fun k hk => by rcases ho3 k hk with h | h; exact .inl h; right; simp at h ⊢; omega); have hk3' := Keeps.trans ((Keeps.refl _ (w2.setCell ⟨x, 2, none⟩ (.slice A2 (L.length + 1) q2))).alloc (.cells #[.int .i64 0] 3)) hk3 (fun j hj => .inl hj); obtain ⟨hb3, hp3, hkk3, hl3⟩ := HP2.out.pushV hv3 hk3' ho3'; have k7 := hb3.cell 3; have kh := hb3.frozen; simp at k7; have HP3 := hid hp3; have HKK3 := hid hkk3; have HL3 := hid hl3; clear hv3 hk3 ho3 ho3' hk3' hb3 hp3 hkk3 hl3))
      obtain ⟨W3, hW3⟩ : ∃ W3, w3.setCell ⟨x, 3, none⟩ (.slice A3 (L.length + 1) q3) = W3 := ⟨_, rfl⟩
      rw [hW3] at HP3 HKK3 ⊢
      clear hW3 k1 k2 k3 k4 k5 k6 k7 kf kg kh
      have hL1 := HL1.out.trans HL2.out HKK1.out.size
      have hL2 := hL1.trans HL3.out (Nat.le_trans HKK1.out.size HKK2.out.size)
      have hK3 := ((HKK1.out.trans HKK2.out HL1.out).trans HKK3.out hL1)
      obtain ⟨F3, hF3⟩ : ∃ F3, F ++ (Value.slice A1 (L.length + 1) q1).ownBlock.toList ++ (Value.slice A2 (L.length + 1) q2).ownBlock.toList ++ (Value.slice A3 (L.length + 1) q3).ownBlock.toList = F3 := ⟨_, rfl⟩
      rw [hF3] at HP3 hL2
      have hS : RS W3 x F3 lim (L ++ [((0 : Int), false, (0 : Int))]) n := by
        have h := HP3.out
        have e : L.length + 1 = (L ++ [((0 : Int), false, (0 : Int))]).length := by simp
        have e1 : usedV L ++ [Value.bool false] = usedV (L ++ [((0 : Int), false, (0 : Int))]) := by simp [usedV]
        have e2 : genV L ++ [Value.int .i64 0] = genV (L ++ [((0 : Int), false, (0 : Int))]) := by simp [genV]
        have e3 : valV L ++ [Value.int .i64 0] = valV (L ++ [((0 : Int), false, (0 : Int))]) := by simp [valV]
        rw [e, e1, e2, e3] at h
        exact ⟨_, _, _, h⟩
      obtain ⟨UB, uc', GB, gc', VB, vc', g1, g2, g3, gcc⟩ := hS.opened
      obtain ⟨ub, uo, gb, go, vb, vo, rfl, rfl, rfl, hcc⟩ := gcc (by simp)
      have hdl : (L ++ [((0 : Int), false, (0 : Int))])[L.length]? = some (0, false, 0) := by simp
      obtain ⟨p0, p1, p2⟩ := hcc L.length _ hdl
      obtain ⟨hug, huv, hgv, hux, hgx, hvx, huF, hgF, hvF, -⟩ := hS.apart g1 g2 g3
      obtain ⟨-, -, fu, -⟩ := hS.setUsed g1 hdl
      obtain ⟨-, -, fg, -⟩ := hS.setGen g2 hdl
      obtain ⟨-, -, fv, -⟩ := hS.setVal g3 hdl
      obtain ⟨c4, -, fx, hxF3, hxl3⟩ := hS.cN
      have fu' := fu (uo + L.length)
      have fg' := fg (go + L.length)
      have fv' := fv (vo + L.length)
      have fx' := fx 4
      have hrF3 : w.heap.size ∉ F3 := fun hx => by
        rcases hL2 _ hx with h | h
        · exact HRF.out h
        · simp at h
          omega
      have hbr := HB0.out.keeps hK3 HRF.out
      have r0 := hbr.cell 0
      have r1 := hbr.cell 1
      have rf0 := hbr.frozen 0
      have rf1 := hbr.frozen 1
      simp at r0 r1
      have hru : ub ≠ w.heap.size := fun e => hrF3 (e ▸ huF)
      have hrg : gb ≠ w.heap.size := fun e => hrF3 (e ▸ hgF)
      have hrv : vb ≠ w.heap.size := fun e => hrF3 (e ▸ hvF)
      have hrx : x ≠ w.heap.size := fun e => hrF3 (e ▸ hxF3)
      have hlL : (L.length : Int) < (L.length : Int) + 1 := by omega
      have HDONE := hid (rput_new_done (v := v) H.out HK0.out hK3 hL2 hS g1 g2 g3 hrF3 (y := .int .i64 L.length) (z := .int .i64 1))
      simp only [List.length_append, List.length_singleton] at g1 g2 g3
      clear hcc gcc hdl fu fg fv fx hbr hK3 hL1 hL2 hF3 hS HP1 HP2 HP3 HKK1 HKK2 HKK3 HL1 HL2 HL3 hr3 HR3 HR0
      go_wp2_with fail
      refine bodyPost_ret (v := .tuple #[.agg #[.int .i64 L.length, .int .i64 1], .int .i64 0]) (by simp [results, Try.results26, go_sem, r0, r1]) rfl ⟨rfl, ?_⟩
      exact HDONE.out
theorem rsput_any (s : Nat) (F : List Nat) (lim n : Int) (L : List Slot) (v : Int) (w : World) (h : RS w s F lim L n) (hn : n < lim) (hg : ∀ d ∈ L, 0 ≤ d.1 ∧ d.1 ≤ 1099511627776) (hL : L.length ≤ 1099511627776) (hn0 : -1099511627776 ≤ n) (hn1 : n ≤ 1099511627776) :
    Calls Try.prog 26 #[.pointer (some ⟨s, 0, none⟩), .int .i64 v] w (RPut w s F lim n v L) := by
  by_cases hk : freeAt L < L.length
  · have hd := List.getElem?_eq_getElem hk
    have hb := hg _ (List.mem_of_getElem? hd)
    exact rsput_old s F lim n L _ v w h hn hL hd hb.1 hb.2 hn0 hn1
  · exact rsput_new s F lim n L v w h hn hL (by have := freeAt_le L; omega) hn0 hn1
end Go.Proofs.Ytkeffebcmajhmaa
