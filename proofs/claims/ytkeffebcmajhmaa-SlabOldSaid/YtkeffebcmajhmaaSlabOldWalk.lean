/- The walk of SlabOld. -/
import Derived.Test.YtkeffebcmajhmaaSlab8
namespace Go.Proofs.Ytkeffebcmajhmaa
open Go.RowKit
set_option linter.unusedVariables false
theorem Row.hsInM {w : World} {F : List Nat} {v : Value} {n : Nat} {hs : List (Int × Int)} (h : Row w 30 2 v n (handlesV hs)) (hl : hs.length = n) (hF : ∀ k, v.ownBlock = some k → k ∉ F) : HsIn w F v hs := by
  subst hl
  exact h.hsIn hF
def oldL (i : Nat) (v : Int) : List Slot := if i = 0 then [] else [((i : Int), false, v)]
def hold (m : Nat) : List (Int × Int) := (List.range m).map fun j : Nat => (0, (j : Int) + 1)
theorem hold_length (m : Nat) : (hold m).length = m := by simp [hold]
theorem hold_get (m j : Nat) (h : j < m) : (hold m)[j]? = some (0, (j : Int) + 1) := by simp [hold, h]
theorem hold_succ (m : Nat) : hold (m + 1) = hold m ++ [(0, (m : Int) + 1)] := by simp [hold, List.range_succ]
theorem old_put (i : Nat) (v : Int) : freeAt (oldL i v) = 0 ∧ putG (oldL i v) = (i : Int) + 1 ∧ putL (oldL i v) v = [((i : Int) + 1, true, v)] := by
  unfold oldL
  split
  · subst_vars
    exact ⟨rfl, rfl, rfl⟩
  · exact ⟨rfl, rfl, rfl⟩
theorem old_gen (i : Nat) (v : Int) (hi : i ≤ 300) : ∀ d ∈ oldL i v, 0 ≤ d.1 ∧ d.1 ≤ 1099511627776 := by
  intro d hd
  unfold oldL at hd
  split at hd
  · simp at hd
  · simp at hd
    subst hd
    simp only
    omega
theorem old_stale (i k : Nat) (v : Int) (h : k < i) : live [((i : Int) + 1, true, v)] 0 ((k : Int) + 1) = none := by
  simp [live]
  omega
theorem old_take (i : Nat) (v : Int) : takeAll [((i : Int) + 1, true, v)] [(0, (i : Int) + 1)] = ([((i : Int) + 1, false, v)], 1) := by
  simp [takeAll, take1, live]
theorem old_none (i : Nat) (v : Int) (hs : List (Int × Int)) : takeAll (oldL i v) hs = (oldL i v, 0) := by
  unfold takeAll
  induction hs with
  | nil => rfl
  | cons h hs ih =>
    rw [List.foldl_cons]
    have e : take1 (oldL i v, 0) h = (oldL i v, 0) := by
      have hl : live (oldL i v) h.1 h.2 = none := by
        unfold live oldL
        split
        · split
          · rename_i h0 d hd
            split at hd
            · simp at hd
            · have := List.mem_of_getElem? hd
              simp at this
              subst this
              simp
          · rfl
        · rfl
      unfold take1
      simp only
      rw [hl]
    rw [e]
    exact ih
set_option maxHeartbeats 1000000 in
theorem slabOld_out (w : World) (N v : Int) (hg : N < 1 ∨ (1 ≤ N ∧ 300 < N)) :
    Calls Try.prog 4 #[.int .i64 N, .int .i64 v] w fun e w' => e = .returned (.bool true) ∧ Below w.heap.size w w' := by
  rcases hg with h | ⟨h0, h⟩
  all_goals
    go_enter Try.func4, Try.ntmps4
    go_wp2_with (go_at_call 18; refine (sknown_any _).mono ?_; rintro e w5 ⟨rfl, hk5⟩)
    go_ret
    exact ⟨rfl, hk5.below (Nat.le_refl _) (by simp)⟩
set_option maxRecDepth 100000 in
set_option maxHeartbeats 4000000 in
theorem slabOld_in (w : World) (N : Nat) (v : Int) (hN1 : 1 ≤ N) (hN : N ≤ 300) :
    Calls Try.prog 4 #[.int .i64 N, .int .i64 v] w fun e w' => e = .returned (.bool true) ∧ Below w.heap.size w w' := by
  obtain ⟨i1, hi1, hy0, hy1, hy2⟩ := info_parts handle_info
  have c1 : ¬ (N : Int) < 1 := by omega
  have c2 : ¬ (300 : Int) < N := by omega
  go_enter Try.func4, Try.ntmps4
  go_wp2_with fail
  refine (snew_ok 1 _ (by omega) (by omega)).mono ?_
  rintro e w1 ⟨rfl, hs1, hk1⟩
  obtain ⟨s, hse⟩ : ∃ s, w.heap.size = s := ⟨_, rfl⟩
  rw [hse] at hs1
  rw [hse]
  have hsl : w.heap.size ≤ s := by omega
  clear hse
  go_wp2_with fail
  go_loopw [7, 8, 9, 10, 11, 12, 13, 14, 15] (fun l i _ _ _ _ _ _ _ wr => ∃ (k m : Nat) (F : List Nat), k ≤ N ∧ i = .int .i64 k ∧ min k 20 = m ∧ SRep wr s F 1 (oldL k v) 0 ∧ (∀ j ∈ F, w.heap.size ≤ j) ∧ Row wr 30 2 l m (handlesV (hold m)) ∧ (∀ j, l.ownBlock = some j → w.heap.size ≤ j ∧ j ∉ F) ∧ Keeps [] w wr) (fun _ i _ _ _ _ _ _ _ _ => N - (intOf i).toNat)
  case atStart => exact ⟨0, 0, [s], Nat.zero_le _, rfl, rfl, hs1, by simpa using hsl, Row.nil _ _ _, by simp [Value.ownBlock], hk1⟩
  case round =>
    clear hs1 hk1
    obtain ⟨k, m, F, hkN, rfl, hm, hs, hF, hrow, hob, hkp⟩ := hrel
    have HS := hid hs
    have HROW := hid hrow
    have HOB := hid hob
    have HFF := hid hF
    have HM := hid hm
    have hm20 : m ≤ 20 := by omega
    have hmk : m ≤ k := by omega
    obtain ⟨LA, lc, rfl, -⟩ := hrow.form
    clear hs hrow hob hF hm
    by_cases hlt : k < N
    · go_wp2_with fail
      refine (sput_any s F 1 0 (oldL k v) v _ HS.out (by decide) (old_gen k v (by omega)) (by unfold oldL; split <;> simp) (by omega) (by omega)).mono ?_
      rintro e w2 ⟨rfl, ⟨F2, hs2, hl2⟩, hk2⟩
      rw [(old_put k v).2.2] at hs2
      rw [show ((freeAt (oldL k v) : Nat) : Int) = 0 by rw [(old_put k v).1]; rfl, (old_put k v).2.1]
      have hrow2 := HROW.out.keeps hk2 (fun j hj => (HOB.out j hj).2)
      have hF2 : ∀ j ∈ F2, w.heap.size ≤ j := hl2.from HFF.out hkp.size
      have hlF2 : ∀ j, (Value.slice LA m lc).ownBlock = some j → j ∉ F2 := fun j hj hx => by
        rcases hl2 j hx with h | h
        · exact (HOB.out j hj).2 h
        · have := HROW.out.lt j hj
          omega
      have hkp2 := hkp.trans hk2 (fun j hj => .inr (HFF.out j hj))
      obtain ⟨hb, hhb⟩ : ∃ hb, w2.heap.size = hb := ⟨_, rfl⟩
      have hbl : Blk (w2.alloc (.cells #[.int .i64 0, .int .i64 ((k : Int) + 1)] 30)) hb 30 #[.int .i64 0, .int .i64 ((k : Int) + 1)] := Blk.newAt hhb
      have hbF : hb ∉ F2 := fun hx => by have := hs2.flt hb hx; omega
      have HS2 := hid (hs2.keeps ((Keeps.refl [] _).alloc (.cells #[.int .i64 0, .int .i64 ((k : Int) + 1)] 30)) (by simp))
      have HR2 := hid (hrow2.alloc (.cells #[.int .i64 0, .int .i64 ((k : Int) + 1)] 30))
      have HK2 := hid (hkp2.alloc (.cells #[.int .i64 0, .int .i64 ((k : Int) + 1)] 30))
      have HB := hid hbl
      have HF2 := hid hF2
      have HLF := hid hlF2
      have HBF := hid hbF
      clear hs2 hl2 hk2 hrow2 hF2 hlF2 hbl hbF hkp2 HS HROW
      go_wp2_with fail
      clear hhb
      obtain ⟨W1, hW1⟩ : ∃ W1 : World, w2.alloc (.cells #[.int .i64 0, .int .i64 ((k : Int) + 1)] 30) = W1 := ⟨_, rfl⟩
      rw [hW1] at HS2 HR2 HK2 HB ⊢
      clear hW1
      go_loopw [11, 12, 13] (fun j _ _ wr => ∃ q : Nat, q ≤ m ∧ j = .int .i64 q ∧ SRep wr s F2 1 [((k : Int) + 1, true, v)] 1 ∧ Keeps F2 W1 wr) (fun j _ _ _ => m - (intOf j).toNat)
      case atStart => exact ⟨0, Nat.zero_le _, rfl, HS2.out, Keeps.refl _ _⟩
      case round =>
        obtain ⟨q, hq, rfl, hsq, hkq⟩ := hrel
        have HSQ := hid hsq
        have HKQ := hid hkq
        clear hsq hkq
        by_cases hql : q < m
        · have hr1 := HR2.out.keeps HKQ.out (fun j hj => HLF.out j hj)
          obtain ⟨lb, lo, hla, -, hlc⟩ := (Row.hsInM (F := []) hr1 (hold_length m) (by simp)).at_ (by rw [hold_length]; omega)
          obtain ⟨e0, e1⟩ := hlc q _ (hold_get m q hql)
          simp only at e0 e1
          subst hla
          have hst := old_stale k q v (by omega)
          have hget : getR [((k : Int) + 1, true, v)] 0 ((q : Int) + 1) = (0, 10) := by unfold getR; rw [hst]
          have hset : setR [((k : Int) + 1, true, v)] 0 ((q : Int) + 1) 1 = ([((k : Int) + 1, true, v)], 10) := by unfold setR; rw [hst]
          have HG := hid hget
          have HSE := hid hset
          have hqm : (q : Int) < m := by omega
          clear hst hget hset hlc hr1
          go_wp2_with fail
          refine (sget_any s F2 1 1 _ 0 ((q : Int) + 1) _ HSQ.out).mono ?_
          rintro e w3 ⟨rfl, hk3⟩
          rw [HG.out]
          have e2 := cell_keep hk3 (by simp) e0
          have e3 := cell_keep hk3 (by simp) e1
          have HS3 := hid (HSQ.out.keeps hk3 (by simp))
          clear e0 e1
          go_wp2_with fail
          refine (sset_any s F2 1 1 _ 0 ((q : Int) + 1) 1 _ HS3.out).mono ?_
          rintro e w4 ⟨rfl, hs4, hk4⟩
          rw [HSE.out] at hs4 ⊢
          have HS4 := hid hs4
          have HK4 := hid ((HKQ.out.trans hk3 (by simp)).trans hk4 (fun j hj => .inl hj))
          clear hs4 hk4 hk3 e2 e3
          go_wp2_with fail
          go_roundw
          case rel => exact ⟨q + 1, by omega, by go_num, HS4.out, HK4.out⟩
          case measure => simp [intOf] <;> omega
        · obtain rfl : m = q := by omega
          go_wp2_with fail
          refine (sput_full s F2 1 [((k : Int) + 1, true, v)] v _ HSQ.out).mono ?_
          rintro e w3 ⟨rfl, hk3⟩
          have hk3' : Keeps F2 W1 w3 := HKQ.out.trans hk3 (by simp)
          have hb3 := HB.out.keeps hk3' HBF.out
          have b0 := hb3.cell 0
          have b1 := hb3.cell 1
          simp at b0 b1
          have n0 := fun o => alloc_cell b0 o
          have n1 := fun o => alloc_cell b1 o
          have HS3 := hid (HSQ.out.keeps hk3 (by simp))
          have HK3 := hid hk3'
          have HB3 := hid hb3
          clear b0 b1 hk3 hk3' hb3
          go_wp2_with fail
          refine (stake_any s F2 1 1 [((k : Int) + 1, true, v)] _ [(0, (k : Int) + 1)] _ (HS3.out.keeps (((Keeps.refl [] _).alloc _).alloc _) (by simp)) (hs_new (hs := [(0, (k : Int) + 1)]) (Blk.newAt (by simp)) (fun hx => by have := HS3.out.flt _ hx; omega) (by simp)) (by simp) (by omega) (by omega)).mono ?_
          rintro e w4 ⟨rfl, hs4, hk4⟩
          rw [show (((takeAll [((k : Int) + 1, true, v)] [(0, (k : Int) + 1)]).2 : Nat) : Int) = 1 by rw [old_take]; rfl]
          have hs5 : SRep w4 s F2 1 (oldL (k + 1) v) 0 := by
            rw [old_take] at hs4
            exact hs4
          have hk5 : Keeps F2 W1 w4 := ((HK3.out.alloc _).alloc _).trans hk4 (fun j hj => .inl hj)
          have hkw : Keeps [] w w4 := HK2.out.trans hk5 (fun j hj => .inr (HF2.out j hj))
          have hr5 := HR2.out.keeps hk5 (fun j hj => HLF.out j hj)
          have hb5 := HB.out.keeps hk5 HBF.out
          have b0 := hb5.cell 0
          have b1 := hb5.cell 1
          simp at b0 b1
          have HS5 := hid hs5
          have HKW := hid hkw
          have HR5 := hid hr5
          have hkN2 : k + 1 ≤ N := by omega
          clear hs4 hk4 hs5 hk5 hkw hr5 hb5 n0 n1
          by_cases h20 : k < 20
          · have hmk2 : m = k := by have := HM.out; omega
            have HMK := hid hmk2
            have h20i : (k : Int) < 20 := by omega
            clear hmk2
            go_wp2_with (at_builtin; refine wpList_append_row _ rfl (.tmp 101) (.tmp 103) _ rfl 30 i1 _ 2 16 Try.underlying28 hi1 hy0 hy1 hy2 rfl (by omega) (.slice LA m lc) m _ rfl (HR5.out.alloc _) (some ⟨w4.heap.size, 0, none⟩) 1 1 [.int .i64 0, .int .i64 ((k : Int) + 1)] rfl (reads_blk2 (Blk.newAt (by simp))) (by simp [Value.oneCell']) (by simp only [maxLen]; omega) (by omega) ?_; intro v6 w6 hv6 hk6 ho6; have HV6 := hid hv6; have HK6 := hid hk6; have HO6 := hid ho6; clear hv6 hk6 ho6)
            go_roundw
            case rel =>
              have hv := HV6.out
              rw [HMK.out] at hv
              rw [show handlesV (hold k) ++ [Value.int .i64 0, .int .i64 ((k : Int) + 1)] = handlesV (hold (k + 1)) by rw [hold_succ]; simp [handlesV]] at hv
              have hk46 : Keeps (Value.slice LA m lc).ownBlock.toList w4 w6 := ((Keeps.refl _ w4).alloc _).trans HK6.out (fun j hj => .inl hj)
              refine ⟨k + 1, k + 1, F2, hkN2, by go_num, by omega, HS5.out.keeps hk46 (fun j hj hx => HLF.out j (by simpa using hx) hj), HF2.out, hv, fun j hj => ?_, HKW.out.trans hk46 (fun j hj => .inr (HOB.out j (by simpa using hj)).1)⟩
              rcases HO6.out j hj with h | h
              · exact ⟨(HOB.out j h).1, HLF.out j h⟩
              · simp at h
                have h1 := HKW.out.size
                refine ⟨by omega, fun hx => ?_⟩
                have := HS5.out.flt j hx
                omega
            case measure => simp [intOf] <;> omega
          · have h20i : ¬ (k : Int) < 20 := by omega
            go_wp2_with fail
            go_roundw
            case rel => exact ⟨k + 1, m, F2, hkN2, by go_num, by have := HM.out; omega, HS5.out, HF2.out, HR5.out, fun j hj => ⟨(HOB.out j hj).1, HLF.out j hj⟩, HKW.out⟩
            case measure => simp [intOf] <;> omega
    · obtain rfl : k = N := by omega
      go_wp2_with fail
      refine (slen_any s F 1 0 _ _ HS.out).mono ?_
      rintro e w2 ⟨rfl, hk2⟩
      have hs2 := HS.out.keeps hk2 (by simp)
      have hr2 := Row.hsInM (F := F) (HROW.out.keeps hk2 (by simp)) (hold_length m) (fun j hj => (HOB.out j hj).2)
      have hkp2 := hkp.trans hk2 (by simp)
      have HS2 := hid hs2
      have HR2 := hid hr2
      clear hs2 hr2 hk2
      go_wp2_with fail
      refine (stake_any s F 1 0 _ _ (hold m) _ HS2.out HR2.out (by rw [hold_length]; omega) (by omega) (by omega)).mono ?_
      rintro e w3 ⟨rfl, -, hk3⟩
      rw [show (((takeAll (oldL k v) (hold m)).2 : Nat) : Int) = 0 by rw [old_none]; rfl]
      have hkp3 := hkp2.trans hk3 (fun j hj => .inr (HFF.out j hj))
      clear hk3
      go_wp2_with (go_at_call 18; refine (sknown_any _).mono ?_; rintro e w5 ⟨rfl, hk5⟩)
      go_ret
      exact ⟨rfl, (hkp3.trans hk5 (by simp)).below (Nat.le_refl _) (by simp)⟩
theorem slabOld_walk (w : World) (N : Int) (_ : (Lit.int .i64 N).wf = true) (v : Int) (_ : (Lit.int .i64 v).wf = true) :
    Calls Try.prog 4 #[.int .i64 N, .int .i64 v] w fun e w' => e = .returned (.bool true) ∧ Below w.heap.size w w' := by
  by_cases hg : 1 ≤ N ∧ N ≤ 300
  · obtain ⟨k, rfl⟩ := Int.eq_ofNat_of_zero_le (by omega : 0 ≤ N)
    exact slabOld_in w k v (by omega) (by omega)
  · exact slabOld_out w N v (by omega)
end Go.Proofs.Ytkeffebcmajhmaa
