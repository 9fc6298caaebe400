/- The reference's slab: Take, All by contract. -/
import Derived.Test.YtkeffebcmajhmaaRefs2
namespace Go.Proofs.Ytkeffebcmajhmaa
open Go.RowKit
set_option linter.unusedVariables false
set_option maxRecDepth 100000 in
set_option maxHeartbeats 1000000 in
theorem rstake_any (x : Nat) (F : List Nat) (lim n : Int) (L : List Slot) (pv : Value) (hs : List (Int × Int)) (w : World) (h : RS w x F lim L n) (hp : HsIn w F pv hs) (hhs : hs.length ≤ 1099511627776) (hn0 : -1099511627776 ≤ n) (hn1 : n ≤ 1099511627776) :
    Calls Try.prog 28 #[.pointer (some ⟨x, 0, none⟩), pv] w fun e w' => e = .returned (.int .i64 (takeAll L hs).2) ∧ RS w' x F lim (takeAll L hs).1 (n - (takeAll L hs).2) ∧ Keeps F w w' := by
  have HP := hid hp
  obtain ⟨A, c, rfl, hp1, hp2⟩ := hp.shape
  have H := hid h
  clear hp h
  go_enter Try.func28, Try.ntmps28
  go_wp2_with fail
  go_loopw [5, 6] (fun m i wr => ∃ (k M : Nat) (L' : List Slot), k ≤ hs.length ∧ i = .int .i64 k ∧ takeAll L (hs.take k) = (L', M) ∧ M ≤ k ∧ m = .int .i64 M ∧ RS wr x F lim L' (n - M) ∧ Keeps F w wr) (fun _ i _ => hs.length - (intOf i).toNat)
  case atStart => exact ⟨0, 0, L, Nat.zero_le _, rfl, by simp [takeAll], Nat.le_refl _, rfl, by simpa using H.out, Keeps.refl _ _⟩
  case round =>
    obtain ⟨k, M, L', hk, rfl, hM, hMk, rfl, hr, hkp⟩ := hrel
    by_cases hlt : k < hs.length
    · obtain ⟨hh, hhk⟩ : ∃ hh, hs[k]? = some hh := ⟨hs[k], by simp [hlt]⟩
      obtain ⟨pb, po, rfl, hpb, hpc⟩ := (HP.out.keeps hkp (fun j hj => .inl hj)).at_ (by omega)
      obtain ⟨d0, d1⟩ := hpc k hh hhk
      obtain ⟨hi, hg⟩ := hh
      simp only at d0 d1
      have hstep : takeAll L (hs.take (k + 1)) = take1 (L', M) (hi, hg) := by
        rw [List.take_add_one, hhk, Option.toList, takeAll_snoc, hM]
      have HM := hid hM
      have HS := hid hstep
      have hki : (k : Int) < hs.length := by omega
      have HR := hid hr
      clear hM hstep hpc hhk
      obtain ⟨y, hy⟩ : ∃ y, live L' hi hg = y := ⟨_, rfl⟩
      cases y with
      | none =>
        have HT : Hid (take1 (L', M) (hi, hg) = (L', M)) := hid (by unfold take1; simp only; rw [hy])
        have HY := hid hy
        clear hy hr
        go_wp2_with fail
        refine (ris_dead x F lim (n - M) L' hi hg _ HR.out HY.out).mono ?_
        rintro e w1 ⟨rfl, hk1⟩
        go_wp2_with fail
        go_roundw
        case rel => exact ⟨k + 1, M, L', by omega, by go_num, by rw [HS.out, HT.out], by omega, rfl, HR.out.keeps hk1 (by simp), hkp.trans hk1 (by simp)⟩
        case measure => simp [intOf] <;> omega
      | some y =>
        obtain ⟨j, v⟩ := y
        obtain ⟨rfl, hd⟩ := live_some hy
        have HT : Hid (take1 (L', M) ((j : Int), hg) = (L'.set j (hg, false, v), M + 1)) := hid (by unfold take1; simp only; rw [hy])
        have hjl : j < L'.length := (List.getElem?_eq_some_iff.1 hd).1
        have hji : (j : Int) < L'.length := by omega
        have HD := hid hd
        clear hy hr hd
        go_wp2_with fail
        refine (ris_live x F lim (n - M) L' j hg v _ HR.out HD.out).mono ?_
        rintro e w1 ⟨rfl, hk1⟩
        have hr1 := HR.out.keeps hk1 (by simp)
        obtain ⟨UA, uc, GA, gc, VA, vc, h1, h2, h3, hc⟩ := hr1.opened
        obtain ⟨ub, uo, gb, go, vb, vo, rfl, rfl, rfl, hcc⟩ := hc (by omega)
        obtain ⟨c1, -, -⟩ := hcc j _ HD.out
        simp only at c1
        have e0 := cell_keep hk1 (by simp) d0
        obtain ⟨hbF, hbx, hfz, hst⟩ := hr1.setUsed h1 HD.out
        obtain ⟨m2, -, mf, hxF, -⟩ := hr1.cN
        have f1 := hfz (uo + j)
        have f2 := mf 4
        have HST := hid (hst false)
        have HK := hid hk1
        clear h2 h3 hc hcc hst hfz hk1 mf hr1 d0 d1
        go_wp2_with fail
        go_region_law (fail)
        all_goals
          go_wp2_with fail
          go_roundw
          case rel =>
            refine ⟨k + 1, M + 1, L'.set j (hg, false, v), by omega, by go_num, by rw [HS.out, HT.out], by omega, by go_num, ?_, (((hkp.trans (HK.out.mono (G := F) (by simp)) (fun j hj => .inl hj)).setCell (p := ⟨ub, uo + j, none⟩) (.inl hbF) _).setCell (p := ⟨x, 4, none⟩) (.inl hxF) _).drew⟩
            have h5 := (HST.out.setN (n - ((M + 1 : Nat) : Int))).keeps ((Keeps.refl [] _).drew) (by simp)
            have e : n - (M : Int) - 1 = n - ((M + 1 : Nat) : Int) := by omega
            rw [e]
            exact h5
          case measure => simp [intOf] <;> omega
    · have hkl : k = hs.length := by omega
      subst hkl
      rw [List.take_length] at hM
      have HM := hid hM
      clear hM
      go_wp2
      go_ret
      rw [HM.out]
      exact ⟨rfl, hr, hkp⟩
set_option maxRecDepth 100000 in
set_option maxHeartbeats 1000000 in
theorem rsall_any (x : Nat) (F : List Nat) (lim n : Int) (L : List Slot) (w : World) (h : RS w x F lim L n) (hL : L.length ≤ 1099511627776) :
    Calls Try.prog 32 #[.pointer (some ⟨x, 0, none⟩)] w fun e w' => NewHs w (allFrom 0 L) e w' ∧ Keeps [] w w' := by
  obtain ⟨i1, hi1, hy0, hy1, hy2⟩ := info_parts handle_info
  have H := hid h
  clear h
  go_enter Try.func32, Try.ntmps32
  go_wp2_with fail
  go_loopw [3, 4] (fun l i wr => ∃ (k : Nat) (q : List (Int × Int)), k ≤ L.length ∧ i = .int .i64 k ∧ allFrom 0 (L.take k) = q ∧ q.length ≤ k ∧ Row wr 30 2 l q.length (handlesV q) ∧ (∀ j, l.ownBlock = some j → w.heap.size ≤ j) ∧ Keeps [] w wr) (fun _ i _ => L.length - (intOf i).toNat)
  case atStart => exact ⟨0, [], Nat.zero_le _, rfl, by simp [allFrom], Nat.le_refl _, Row.nil _ _ _, by simp [Value.ownBlock], Keeps.refl _ _⟩
  case round =>
    obtain ⟨k, q, hk, rfl, hq, hqk, hrow, hob, hkp⟩ := hrel
    have HROW := hid hrow
    have HOB := hid hob
    have HQ := hid hq
    obtain ⟨LA, lc, rfl, -⟩ := hrow.form
    obtain ⟨UA, uc, GA, gc, VA, vc, h1, h2, h3, hc⟩ := (H.out.keeps hkp (by simp)).opened
    clear hrow hob hq h3
    by_cases hlt : k < L.length
    · obtain ⟨d, hd⟩ : ∃ d, L[k]? = some d := ⟨L[k], List.getElem?_eq_getElem hlt⟩
      obtain ⟨ub, uo, gb, go, vb, vo, rfl, rfl, rfl, hcc⟩ := hc (by omega)
      obtain ⟨d0, d1, -⟩ := hcc k d hd
      have hstep : allFrom 0 (L.take (k + 1)) = q ++ (if d.2.1 = true then [(((k : Nat) : Int), d.1)] else []) := by
        rw [List.take_add_one, hd, Option.toList, allFrom_snoc, HQ.out, List.length_take, Nat.min_eq_left (by omega), Nat.zero_add]
      have HS := hid hstep
      have hki : (k : Int) < L.length := by omega
      have hq40 : q.length ≤ 1099511627776 := by omega
      obtain ⟨dg, du, dv⟩ := d
      simp only at d0 d1
      clear hstep hcc hd hc
      cases du with
      | false =>
        go_wp2_with fail
        go_roundw
        case rel => exact ⟨k + 1, q, by omega, by go_num, by rw [HS.out]; simp, by omega, HROW.out, HOB.out, hkp⟩
        case measure => simp [intOf] <;> omega
      | true =>
        go_wp2_with (at_builtin; refine wpList_append_row _ rfl (.tmp 21) (.tmp 31) _ rfl 30 i1 _ 2 16 Try.underlying28 hi1 hy0 hy1 hy2 rfl (by omega) (.slice LA q.length lc) q.length _ rfl (HROW.out.alloc _) (some ⟨wr.heap.size, 0, none⟩) 1 1 [.int .i64 k, .int .i64 dg] rfl (reads_blk2 (Blk.newAt (by simp))) (by simp [Value.oneCell']) (by simp only [maxLen]; omega) (by omega) ?_; intro v2 w2 hv2 hk2 ho2; have HV2 := hid hv2; have HK2 := hid hk2; have HO2 := hid ho2; clear hv2 hk2 ho2)
        go_roundw
        case rel =>
          have hv := HV2.out
          rw [show handlesV q ++ [Value.int .i64 k, .int .i64 dg] = handlesV (q ++ [((k : Int), dg)]) by simp [handlesV], show q.length + 1 = (q ++ [((k : Int), dg)]).length by simp] at hv
          refine ⟨k + 1, q ++ [((k : Int), dg)], by omega, by go_num, by rw [HS.out]; simp, by simp; omega, hv, fun j hj => ?_, (hkp.alloc _).trans HK2.out (fun j hj => .inr (HOB.out j (by simpa using hj)))⟩
          rcases HO2.out j hj with h | h
          · exact HOB.out j h
          · have h5 := hkp.size
            simp at h
            omega
        case measure => simp [intOf] <;> omega
    · have hkl : k = L.length := by omega
      subst hkl
      have hq2 := HQ.out
      rw [List.take_length] at hq2
      subst hq2
      go_wp2
      go_ret
      exact ⟨⟨_, rfl, HROW.out, HOB.out⟩, hkp⟩
end Go.Proofs.Ytkeffebcmajhmaa
