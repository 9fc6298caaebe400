/- The walk of PoolMost. -/
import Derived.Test.YtkcncnbjojejeaaPool4
namespace Go.Proofs.Ytkcncnbjojejeaa
open Go.RowKit
/-- R places, the first i of them x, the others not. -/
def upTo (R i : Nat) (x : Bool) : List Bool := (List.range R).map fun j => if j < i then x else !x
theorem upTo_length (R i : Nat) (x : Bool) : (upTo R i x).length = R := by simp [upTo]
theorem upTo_getD (R i j : Nat) (x : Bool) (h : j < R) : (upTo R i x).getD j false = if j < i then x else !x := by
  simp [upTo, h]
theorem upTo_set (R i : Nat) (x : Bool) : (upTo R i x).set i x = upTo R (i + 1) x := by
  apply List.ext_getElem
  · simp [upTo]
  · intro j h1 h2
    simp only [upTo, List.length_set, List.length_map, List.length_range] at h1
    simp only [upTo, List.getElem_set, List.getElem_map, List.getElem_range]
    by_cases e : i = j
    · subst e
      simp
    · rw [if_neg e]
      by_cases h : j < i
      · rw [if_pos h, if_pos (by omega)]
      · rw [if_neg h, if_neg (by omega)]
theorem upTo_true (R i : Nat) (h : i ≤ R) : (upTo R i true).count true = i := by
  induction i with
  | zero =>
    rw [List.count_eq_zero]
    simp [upTo]
  | succ i ih =>
    have h1 := count_set_true (upTo R i true) i (by rw [upTo_length]; omega) (by rw [upTo_getD _ _ _ _ (by omega)]; simp)
    rw [upTo_set, ih (by omega)] at h1
    exact h1
theorem upTo_false (R i : Nat) (h : i ≤ R) : (upTo R i false).count true + i = R := by
  induction i with
  | zero =>
    have : (upTo R 0 false).count true = (upTo R 0 false).length := by
      rw [List.count_eq_length]
      simp [upTo]
    rw [this, upTo_length, Nat.add_zero]
  | succ i ih =>
    have h1 := count_set_false (upTo R i false) i (by rw [upTo_length]; omega) (by rw [upTo_getD _ _ _ _ (by omega)]; simp)
    rw [upTo_set] at h1
    have := ih (by omega)
    omega
theorem upTo_all (R : Nat) : upTo R R true = upTo R 0 false := by
  apply List.ext_getElem
  · simp [upTo]
  · intro j h1 h2
    simp only [upTo, List.length_map, List.length_range] at h1
    simp [upTo, h1]
theorem upTo_none (R : Nat) : upTo R 0 true = List.replicate R false := by
  apply List.ext_getElem
  · simp [upTo]
  · intro j h1 h2
    simp [upTo]
theorem upTo_put (R i : Nat) : putStep (upTo R (min i R) false) i = upTo R (min (i + 1) R) false := by
  unfold putStep
  by_cases h : i < R
  · rw [if_pos ⟨by omega, by rw [upTo_length]; simpa using h, by rw [Int.toNat_natCast, upTo_getD _ _ _ _ h]; simp; omega⟩]
    rw [Int.toNat_natCast, Nat.min_eq_left (by omega), upTo_set, Nat.min_eq_left (by omega)]
  · rw [if_neg (by rw [upTo_length]; rintro ⟨-, h1, -⟩; omega), Nat.min_eq_right (by omega), Nat.min_eq_right (by omega)]
set_option maxHeartbeats 1000000 in
theorem poolMost_out (w : World) (r b : Int) (hg : r < 0 ∨ (0 ≤ r ∧ 60 < r) ∨ (0 ≤ r ∧ r ≤ 60 ∧ b < 0) ∨ (0 ≤ r ∧ r ≤ 60 ∧ 0 ≤ b ∧ 60 < b)) :
    Calls Try.prog 9 #[.int .i64 r, .int .i64 b] w fun e w' => e = .returned (.bool true) ∧ Below w.heap.size w w' := by
  rcases hg with h | ⟨h0, h⟩ | ⟨h0, h1, h⟩ | ⟨h0, h1, h2, h⟩
  all_goals
    go_enter Try.func9, Try.ntmps9
    go_wp2_with (go_at_call 34; refine (pknown_any _).mono ?_; rintro e w5 ⟨rfl, hk5⟩)
    go_ret
    exact ⟨rfl, hk5.below (Nat.le_refl _) (by simp)⟩
set_option maxRecDepth 100000 in
set_option maxHeartbeats 2000000 in
theorem poolMost_in (w : World) (R B : Nat) (hR : R ≤ 60) (hB : B ≤ 60) :
    Calls Try.prog 9 #[.int .i64 R, .int .i64 B] w fun e w' => e = .returned (.bool true) ∧ Below w.heap.size w w' := by
  have c1 : ¬ (60 : Int) < R := by omega
  have c2 : ¬ (60 : Int) < B := by omega
  have c3 : ¬ (R : Int) < 0 := by omega
  have c4 : ¬ (B : Int) < 0 := by omega
  go_enter Try.func9, Try.ntmps9
  go_wp2_with fail
  refine (pnew_ok R 8 _ (by omega) (by omega) (by omega)).mono ?_
  rintro e w1 ⟨rfl, hp, hk⟩
  rw [← upTo_none] at hp
  obtain ⟨p, hpe⟩ : ∃ p, w.heap.size + 1 = p := ⟨_, rfl⟩
  obtain ⟨g, hge⟩ : ∃ g, w.heap.size = g := ⟨_, rfl⟩
  rw [hpe, hge] at hp
  rw [hpe]
  have hfp : w.heap.size ≤ p := by omega
  have hfg : w.heap.size ≤ g := by omega
  clear hpe hge
  go_wp2_with fail
  go_loopw [7, 8, 9, 10] (fun i _ _ _ wr => ∃ k : Nat, k ≤ R ∧ i = .int .i64 k ∧ PoolRep wr p g (upTo R k true) 8 k ∧ Keeps [] w wr) (fun i _ _ _ _ => R - (intOf i).toNat)
  case atStart => exact ⟨0, Nat.zero_le _, rfl, hp, hk⟩
  case round =>
    obtain ⟨k, hkR, rfl, hr, hkp⟩ := hrel
    by_cases hlt : k < R
    · go_wp2_with fail
      refine (get_ok p g 8 k k (upTo R k true) _ hr (by rw [upTo_length]; exact hlt) (fun j hj => by rw [upTo_getD _ _ _ _ (by omega)]; simp [hj]) (by rw [upTo_getD _ _ _ _ hlt]; simp)).mono ?_
      rintro e w2 ⟨a, b, rfl, hp2, -, -, -, hk2⟩
      rw [upTo_set, upTo_true R k hkR, Nat.max_eq_right (by omega)] at hp2
      go_wp2
      go_roundw
      case rel => exact ⟨k + 1, by omega, by go_num, hp2, hkp.trans hk2 (by simp; omega)⟩
      case measure => simp [intOf] <;> omega
    · obtain rfl : k = R := by omega
      go_wp2_with fail
      refine (get_full p g 8 k (upTo k k true) _ hr (fun j hj => by rw [upTo_length] at hj; rw [upTo_getD _ _ _ _ hj]; simp [hj])).mono ?_
      rintro e w2 ⟨rfl, rfl⟩
      rw [upTo_all] at hr
      go_wp2_with fail
      obtain ⟨wo, hwo⟩ : ∃ wo : World, wo = wr := ⟨_, rfl⟩
      subst hwo
      go_loopw [14, 15] (fun n i wr => ∃ j : Nat, j ≤ B ∧ i = .int .i64 j ∧ n = .int .i64 (min j k : Nat) ∧ PoolRep wr p g (upTo k (min j k) false) 8 k ∧ Keeps [] w wr) (fun _ i _ => B - (intOf i).toNat)
      case atStart => exact ⟨0, Nat.zero_le _, rfl, by simp, by simpa using hr, hkp⟩
      case round =>
        obtain ⟨j, hjB, rfl, rfl, hr2, hkp2⟩ := hrel
        obtain ⟨m, hm⟩ : ∃ m, min j k = m := ⟨_, rfl⟩
        rw [hm] at hr2 ⊢
        by_cases hjl : j < B
        · have hput := upTo_put k j
          rw [hm] at hput
          obtain ⟨m2, hm2⟩ : ∃ m2, min (j + 1) k = m2 := ⟨_, rfl⟩
          rw [hm2] at hput
          have e1 := upTo_false k m (by omega)
          have e2 := upTo_false k m2 (by omega)
          have HM2 := hid hm2
          have HPUT := hid hput
          have HC : Hid ((((upTo k m false).count true : Nat) : Int) - (([(j : Int)]).foldl putStep (upTo k m false)).count true = ((m2 - m : Nat) : Int)) := by
            refine hid ?_
            simp only [List.foldl_cons, List.foldl_nil]
            rw [hput]
            omega
          have hmm : m ≤ m2 := by omega
          have hm2k : m2 ≤ 60 := by omega
          clear hm hm2 hput e1 e2
          go_wp2_with fail
          refine (put_any p g 8 k (upTo k m false) _ [(j : Int)] _ ?_ ?_).mono ?_
          · exact hr2.keeps ((Keeps.refl [] _).alloc _) (by simp) (by simp)
          · have h := CellsIn.newM wr [p, g] [.int .i64 j] 3 (0, 0) (by have := hr2.lt; simp; omega) (by simp)
            simpa using h
          rintro e w3 ⟨rfl, hp3, hk3⟩
          rw [HC.out]
          have hk3' : Keeps [] w w3 := (hkp2.alloc _).trans hk3 (by simp; omega)
          simp only [List.foldl_cons, List.foldl_nil] at hp3
          rw [HPUT.out] at hp3
          go_wp2
          go_roundw
          case rel =>
            refine ⟨j + 1, by omega, by go_num, ?_, by rw [HM2.out]; exact hp3, hk3'⟩
            rw [HM2.out]
            congr 1
            omega
          case measure => simp [intOf] <;> omega
        · obtain rfl : j = B := by omega
          have e1 := upTo_false k m (by omega)
          have hmin : (if (j : Int) < k then (j : Int) else k) = m := by split <;> omega
          have hmin2 : (if j < k then (j : Int) else k) = m := by split <;> omega
          have HC : Hid ((((upTo k m false).count true : Nat) : Int) = (k : Int) - m) := hid (by omega)
          clear e1 hm
          go_wp2_with (first
            | (go_at_call 32; refine (lent_any p g 8 k _ _ hr2).mono ?_; rintro e w4 ⟨rfl, hk4⟩; rw [HC.out])
            | (go_at_call 34; refine (pknown_any _).mono ?_; rintro e w5 ⟨rfl, hk5⟩))
          go_ret
          exact ⟨rfl, ((hkp2.trans hk4 (by simp)).trans hk5 (by simp)).below (Nat.le_refl _) (by simp)⟩
theorem poolMost_walk (w : World) (r : Int) (_ : (Lit.int .i64 r).wf = true) (b : Int) (_ : (Lit.int .i64 b).wf = true) :
    Calls Try.prog 9 #[.int .i64 r, .int .i64 b] w fun e w' => e = .returned (.bool true) ∧ Below w.heap.size w w' := by
  by_cases hg : 0 ≤ r ∧ r ≤ 60 ∧ 0 ≤ b ∧ b ≤ 60
  · obtain ⟨h1, h2, h3, h4⟩ := hg
    obtain ⟨R, rfl⟩ := Int.eq_ofNat_of_zero_le h1
    obtain ⟨B, rfl⟩ := Int.eq_ofNat_of_zero_le h3
    exact poolMost_in w R B (by omega) (by omega)
  · exact poolMost_out w r b (by omega)
end Go.Proofs.Ytkcncnbjojejeaa
