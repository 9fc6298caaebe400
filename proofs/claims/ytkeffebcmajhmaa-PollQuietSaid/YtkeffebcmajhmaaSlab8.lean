/- 'known' of the slab's laws; SlabOfNothing. -/
import Derived.Test.YtkeffebcmajhmaaSlab7
namespace Go.Proofs.Ytkeffebcmajhmaa
open Go.RowKit
set_option linter.unusedVariables false
theorem hs_new {w : World} {F : List Nat} {H : Nat} {t : TypeId} {hs : List (Int × Int)} (hB : Blk w H t (handlesV hs).toArray) (hF : H ∉ F) (hl : hs.length ≤ 9223372036854775807) : HsIn w F (.slice (some ⟨H, 0, none⟩) hs.length hs.length) hs :=
  ⟨_, _, rfl, Nat.le_refl _, by unfold maxLen; omega, fun _ => ⟨H, 0, rfl, hF, fun j h hj => by
    obtain ⟨g0, g1⟩ := handlesV_get hs j h hj
    rw [hB.cell, hB.cell, Nat.zero_add]
    exact ⟨by simpa using g0, by simpa using g1⟩⟩⟩
set_option maxRecDepth 100000 in
set_option maxHeartbeats 1000000 in
theorem sknown_any (w : World) : Calls Try.prog 18 #[] w fun e w' => e = .returned (.bool true) ∧ Keeps [] w w' := by
  go_enter Try.func18, Try.ntmps18
  go_wp2_with fail
  refine (snew_ok 2 _ (by omega) (by omega)).mono ?_
  rintro e w1 ⟨rfl, hs1, hk1⟩
  obtain ⟨s, hse⟩ : ∃ s, w.heap.size = s := ⟨_, rfl⟩
  rw [hse] at hs1
  rw [hse]
  have hsl : w.heap.size ≤ s := by omega
  clear hse
  go_wp2_with fail
  refine (sput_any s [s] 2 0 [] 7 _ hs1 (by decide) (by simp) (by simp) (by omega) (by omega)).mono ?_
  rintro e w2 ⟨rfl, ⟨F2, hs2', hl2⟩, hk2⟩
  have hs2 : SRep w2 s F2 2 [(1, true, 7)] 1 := hs2'
  have hF2 : ∀ k ∈ F2, w.heap.size ≤ k := hl2.from (by simpa using hsl) hk1.size
  have hkk2 : Keeps [] w w2 := hk1.trans hk2 (by simpa using hsl)
  have e2 : ((freeAt [] : Nat) : Int) = 0 := rfl
  have e3 : putG [] = 1 := rfl
  rw [e2, e3]
  clear hs2' hl2 hk2 hk1 e2 e3
  obtain ⟨a, ha⟩ : ∃ a, w2.heap.size = a := ⟨_, rfl⟩
  have hba : Blk (w2.alloc (.cells #[.int .i64 0, .int .i64 1] 30)) a 30 #[.int .i64 0, .int .i64 1] := Blk.newAt ha
  have HA := hid ha
  have haF : a ∉ F2 := fun hx => by have := hs2.flt a hx; omega
  have haw : w.heap.size ≤ a := by have := hkk2.size; omega
  go_wp2_with fail
  refine (sput_any s F2 2 1 [(1, true, 7)] 8 _ (hs2.keeps ((Keeps.refl [] _).alloc _) (by simp)) (by decide) (by simp) (by simp) (by omega) (by omega)).mono ?_
  rintro e w3 ⟨rfl, ⟨F3, hs3', hl3⟩, hk3⟩
  have hs3 : SRep w3 s F3 2 [(1, true, 7), (1, true, 8)] 2 := hs3'
  have hkk3 : Keeps [] w w3 := (hkk2.alloc _).trans hk3 (fun j hj => .inr (hF2 j hj))
  have hF3 : ∀ k ∈ F3, w.heap.size ≤ k := hl3.from hF2 (Nat.le_trans hkk2.size (by simp))
  have hba3 := hba.keeps hk3 haF
  have haF3 : a ∉ F3 := fun hx => by
    rcases hl3 a hx with h | h
    · exact haF h
    · simp at h
      omega
  have a0 := hba3.cell 0
  have a1 := hba3.cell 1
  simp at a0 a1
  clear hs3' hl3 hk3 hkk2 hs2 hs1 haF ha hba
  go_wp2_with fail
  refine (stake_any s F3 2 2 [(1, true, 7), (1, true, 8)] _ [(0, 1), (0, 1)] _ (hs3.keeps ((Keeps.refl [] _).alloc _) (by simp)) (hs_new (hs := [(0, 1), (0, 1)]) (Blk.newAt rfl) (fun hx => by have := hs3.flt _ hx; omega) (by simp)) (by simp) (by omega) (by omega)).mono ?_
  rintro e w4 ⟨rfl, hs4', hk4⟩
  have hs4 : SRep w4 s F3 2 [(1, false, 7), (1, true, 8)] 1 := hs4'
  have hkk4 : Keeps [] w w4 := (hkk3.alloc _).trans hk4 (fun j hj => .inr (hF3 j hj))
  have hba4 := (hba3.alloc _).keeps hk4 haF3
  have e4 : ((takeAll [(1, true, 7), (1, true, 8)] [(0, 1), (0, 1)]).2 : Int) = 1 := rfl
  rw [e4]
  clear hs4' hk4 hkk3 hs3 hba3 a0 a1 e4
  go_wp2_with fail
  refine (sput_any s F3 2 1 [(1, false, 7), (1, true, 8)] 9 _ hs4 (by decide) (by simp) (by simp) (by omega) (by omega)).mono ?_
  rintro e w5 ⟨rfl, ⟨F5, hs5', hl5⟩, hk5⟩
  have hs5 : SRep w5 s F5 2 [(2, true, 9), (1, true, 8)] 2 := hs5'
  have hkk5 : Keeps [] w w5 := hkk4.trans hk5 (fun j hj => .inr (hF3 j hj))
  have hba5 := hba4.keeps hk5 haF3
  have e5 : ((freeAt [(1, false, 7), (1, true, 8)] : Nat) : Int) = 0 := rfl
  have e6 : putG [(1, false, 7), (1, true, 8)] = 2 := rfl
  rw [e5, e6]
  have a0 := hba5.cell 0
  have a1 := hba5.cell 1
  simp at a0 a1
  have n0 := fun o => alloc_cell a0 o
  have n1 := fun o => alloc_cell a1 o
  clear hs5' hl5 hk5 hkk4 hs4 hba4 e5 e6 a0 a1
  go_wp2_with fail
  refine (sget_any s F5 2 2 [(2, true, 9), (1, true, 8)] 0 1 _ (hs5.keeps ((Keeps.refl [] _).alloc _) (by simp))).mono ?_
  rintro e w6 ⟨rfl, hk6⟩
  have e7 : getR [(2, true, 9), (1, true, 8)] 0 1 = (0, 10) := rfl
  rw [e7]
  have hbh := (Blk.new w5 30 #[.int .i64 0, .int .i64 2]).keeps hk6 (by simp)
  have b0 := hbh.cell 0
  have b1 := hbh.cell 1
  simp at b0 b1
  clear n0 n1 e7 hbh
  go_wp2_with fail
  go_ret
  exact ⟨rfl, (hkk5.alloc _).trans hk6 (by simp)⟩
set_option maxRecDepth 100000 in
set_option maxHeartbeats 1000000 in
theorem slabOfNothing_walk (w : World) (i g v : Int) (_ : (Lit.int .i64 v).wf = true) :
    Calls Try.prog 6 #[.agg #[.int .i64 i, .int .i64 g], .int .i64 v] w fun e w' => e = .returned (.bool true) ∧ Below w.heap.size w w' := by
  go_enter Try.func6, Try.ntmps6
  go_wp2_with fail
  refine (sput_nil v _).mono ?_
  rintro e w1 ⟨rfl, hk1⟩
  have hb1 := (Blk.new w 30 #[.int .i64 i, .int .i64 g]).keeps hk1 (by simp)
  have a0 := hb1.cell 0
  have a1 := hb1.cell 1
  simp at a0 a1
  have n0 := fun o => alloc_cell a0 o
  have n1 := fun o => alloc_cell a1 o
  have hkk1 := ((Keeps.refl [] w).alloc (.cells #[.int .i64 i, .int .i64 g] 30)).trans hk1 (by simp)
  clear a0 a1 hk1
  go_wp2_with fail
  refine (sget_nil i g _).mono ?_
  rintro e w2 ⟨rfl, hk2⟩
  have hkk2 := (hkk1.alloc (.cells #[.int .i64 0, .int .i64 0] 30)).trans hk2 (by simp)
  have hb2 := (hb1.alloc (.cells #[.int .i64 0, .int .i64 0] 30)).keeps hk2 (by simp)
  have hc2 := (Blk.new w1 30 #[.int .i64 0, .int .i64 0]).keeps hk2 (by simp)
  have a0 := hb2.cell 0
  have a1 := hb2.cell 1
  have b0 := hc2.cell 0
  have b1 := hc2.cell 1
  simp at a0 a1 b0 b1
  clear hk2 hb1 n0 n1 hc2 hkk1
  go_wp2_with fail
  refine (sset_nil i g v _).mono ?_
  rintro e w3 ⟨rfl, hk3⟩
  have hkk3 := hkk2.trans hk3 (by simp)
  have hb3 := hb2.keeps hk3 (by simp)
  have a0 := hb3.cell 0
  have a1 := hb3.cell 1
  simp at a0 a1
  clear hk3 hkk2 hb2 b0 b1
  go_wp2_with fail
  refine (stake_nil _ (i, g) _ (hs_new (hs := [(i, g)]) (Blk.newAt rfl) (by simp) (by simp))).mono ?_
  rintro e w4 ⟨rfl, hk4⟩
  have hkk4 := (hkk3.alloc (.cells #[.int .i64 i, .int .i64 g] 30)).trans hk4 (by simp)
  clear hk4 hkk3 hb3
  go_wp2_with (first
    | (go_at_call 22; refine (slen_nil _).mono ?_; rintro e w5 ⟨rfl, hk5⟩)
    | (go_at_call 31; refine (sall_nil _).mono ?_; rintro e w6 ⟨rfl, hk6⟩)
    | (go_at_call 18; refine (sknown_any _).mono ?_; rintro e w7 ⟨rfl, hk7⟩))
  go_ret
  exact ⟨rfl, (((hkk4.trans hk5 (by simp)).trans hk6 (by simp)).trans hk7 (by simp)).below (Nat.le_refl _) (by simp)⟩
end Go.Proofs.Ytkeffebcmajhmaa
