/- The law's stood by contract: two nets that are the same stand alike. -/
import Derived.Test.YtkeffebcmajhmaaNPair
namespace Go.Proofs.Ytkeffebcmajhmaa
open Go.RowKit
set_option linter.unusedVariables false
set_option linter.unusedSimpArgs false
set_option maxRecDepth 100000 in
set_option maxHeartbeats 8000000 in
theorem stood_any (n x : Nat) (F G : List Nat) (N : NS) (B k : Int) (w : World) (h1 : NRep pc w n F N) (h2 : NRep rc w x G N) (hN : OkN N B) (hB : B ≤ 1099511627776) :
    Calls Try.prog 60 #[.pointer (some ⟨n, 0, none⟩), .pointer (some ⟨x, 0, none⟩), .int .i64 k] w fun e w' => e = .returned (.bool true) ∧ Keeps [] w w' := by
  have HP := hid h1
  have HR := hid h2
  have HN := hid hN
  obtain ⟨RY, hRY⟩ : ∃ r, readyN N k = r := ⟨_, rfl⟩
  obtain ⟨MK, hMK⟩ : ∃ r, marksN N k = r := ⟨_, rfl⟩
  obtain ⟨GT, hGT⟩ : ∃ r, gotN N k = r := ⟨_, rfl⟩
  obtain ⟨TK, hTK⟩ : ∃ r, takenN N k = r := ⟨_, rfl⟩
  obtain ⟨ST, hST⟩ : ∃ r, stateN N k = r := ⟨_, rfl⟩
  obtain ⟨r1, r2⟩ := RY
  obtain ⟨m1, m2⟩ := MK
  obtain ⟨gl, g2⟩ := GT
  obtain ⟨t1, t2, t3, t4⟩ := ST
  have HRY := hid hRY
  have HMK := hid hMK
  have HGT := hid hGT
  have HTK := hid hTK
  have HST := hid hST
  clear h1 h2 hN hRY hMK hGT hTK hST
  go_enter Try.func60, Try.ntmps60
  go_wp2_with fail
  refine (ready_any n F N k _ HP.out).mono ?_
  rw [HRY.out]
  rintro e w1 ⟨rfl, hk1⟩
  have HK1 := hid hk1
  clear hk1
  go_wp2_with fail
  refine (rready_any x G N k _ (HR.out.keeps HK1.out (by simp))).mono ?_
  rw [HRY.out]
  rintro e w2 ⟨rfl, hk2⟩
  have HK2 := hid (HK1.out.trans hk2 (by simp))
  clear hk2 HK1
  go_wp2_with fail
  refine (marks_any n F N k _ (HP.out.keeps HK2.out (by simp))).mono ?_
  rw [HMK.out]
  rintro e w3 ⟨rfl, hk3⟩
  have HK3 := hid (HK2.out.trans hk3 (by simp))
  clear hk3 HK2
  go_wp2_with fail
  refine (rmarks_any x G N k _ (HR.out.keeps HK3.out (by simp))).mono ?_
  rw [HMK.out]
  rintro e w4 ⟨rfl, hk4⟩
  have HK4 := hid (HK3.out.trans hk4 (by simp))
  clear hk4 HK3
  go_wp2_with fail
  refine (got_any n F N B k _ (HP.out.keeps HK4.out (by simp)) HN.out hB).mono ?_
  unfold GotPost
  rw [HGT.out]
  rintro e w5 ⟨v5, rfl, hr5, -, hk5⟩
  have HK5 := hid (HK4.out.trans hk5 (by simp))
  have HR5 := hid (Row.cellsIn (F := []) hr5 (by simp))
  clear hk5 hr5 HK4
  go_wp2_with fail
  refine (rgot_any x G N k _ (HR.out.keeps HK5.out (by simp))).mono ?_
  rw [HGT.out]
  rintro e w6 ⟨v6, rfl, hr6, hk6⟩
  have HR56 := hid (HR5.out.keeps hk6 (by simp))
  have HR6 := hid (Row.cellsIn (F := []) hr6 (by simp))
  have HK6 := hid (HK5.out.trans hk6 (by simp))
  clear hk6 hr6 HK5 HR5
  go_wp2_with (first
    | (go_at_call 65; refine (state_any n F N k _ (HP.out.keeps HK6.out (by simp))).mono ?_; rw [HST.out]; rintro e w7 ⟨rfl, hk7⟩; have HK7 := hid hk7; clear hk7)
    | (go_at_call 96; refine (rstate_any x G N k _ (HR.out.keeps (HK6.out.trans HK7.out (by simp)) (by simp))).mono ?_; rw [HST.out]; rintro e w8 ⟨rfl, hk8⟩; have HK8 := hid ((HK6.out.trans HK7.out (by simp)).trans hk8 (by simp)); have HA := hid ((HR56.out.keeps HK7.out (by simp)).keeps hk8 (by simp)); have HB := hid ((HR6.out.keeps HK7.out (by simp)).keeps hk8 (by simp)); clear hk8)
    | fail)
  have b1 : Blk ((w8.alloc (.cells #[.bool t1, .bool t2, .bool t3, .int .i64 t4] 112)).alloc (.cells #[.bool t1, .bool t2, .bool t3, .int .i64 t4] 164)) w8.heap.size 112 #[.bool t1, .bool t2, .bool t3, .int .i64 t4] := (Blk.new w8 _ _).alloc _
  have b2 : Blk ((w8.alloc (.cells #[.bool t1, .bool t2, .bool t3, .int .i64 t4] 112)).alloc (.cells #[.bool t1, .bool t2, .bool t3, .int .i64 t4] 164)) (w8.heap.size + 1) 164 #[.bool t1, .bool t2, .bool t3, .int .i64 t4] := Blk.newAt (by simp)
  have HB1 := hid b1
  have HB2 := hid b2
  have HKA := hid ((HK8.out.alloc (.cells #[.bool t1, .bool t2, .bool t3, .int .i64 t4] 112)).alloc (.cells #[.bool t1, .bool t2, .bool t3, .int .i64 t4] 164))
  clear b1 b2
  refine (nsame_any v5 v6 gl gl _ ((HA.out.alloc _).alloc _) ((HB.out.alloc _).alloc _)).mono ?_
  rw [sameB_self]
  rintro e w9 ⟨rfl, hk9⟩
  have HK9 := hid (HKA.out.trans hk9 (by simp))
  have HB19 := hid (HB1.out.keeps hk9 (by simp))
  have HB29 := hid (HB2.out.keeps hk9 (by simp))
  clear hk9 HB1 HB2 HKA HA HB
  go_wp2_with fail
  refine (taken_any n F N B k _ (HP.out.keeps HK9.out (by simp)) HN.out hB).mono ?_
  unfold Fresh
  rw [HTK.out]
  rintro e w10 ⟨v10, rfl, hr10, -, hk10⟩
  have HK10 := hid (HK9.out.trans hk10 (by simp))
  have HB110 := hid (HB19.out.keeps hk10 (by simp))
  have HB210 := hid (HB29.out.keeps hk10 (by simp))
  have HR10 := hid (Row.cellsIn (F := []) hr10 (by simp))
  clear hk10 hr10 HK9 HB19 HB29
  go_wp2_with fail
  refine (rbytes_any x G N k _ (HR.out.keeps HK10.out (by simp))).mono ?_
  rw [HTK.out]
  rintro e w11 ⟨v11, rfl, hr11, hk11⟩
  have HK11 := hid (HK10.out.trans hk11 (by simp))
  have HB111 := hid (HB110.out.keeps hk11 (by simp))
  have HB211 := hid (HB210.out.keeps hk11 (by simp))
  have HR11 := hid (Row.cellsIn (F := []) hr11 (by simp))
  have HR101 := hid (HR10.out.keeps hk11 (by simp))
  clear hk11 hr11 HK10 HB110 HB210 HR10
  go_wp2_with fail
  refine (nsame_any v10 v11 TK TK _ HR101.out HR11.out).mono ?_
  rw [sameB_self]
  rintro e w12 ⟨rfl, hk12⟩
  have HK12 := hid (HK11.out.trans hk12 (by simp))
  have b1 := HB111.out.keeps hk12 (by simp)
  have b2 := HB211.out.keeps hk12 (by simp)
  have c0 := b1.cell 0
  have c1 := b1.cell 1
  have c2 := b1.cell 2
  have c3 := b1.cell 3
  have d0 := b2.cell 0
  have d1 := b2.cell 1
  have d2 := b2.cell 2
  have d3 := b2.cell 3
  simp at c0 c1 c2 c3 d0 d1 d2 d3
  clear b1 b2 hk12 HK11 HB111 HB211
  go_wp2_with fail
  go_ret
  exact ⟨rfl, HK12.out⟩
end Go.Proofs.Ytkeffebcmajhmaa
