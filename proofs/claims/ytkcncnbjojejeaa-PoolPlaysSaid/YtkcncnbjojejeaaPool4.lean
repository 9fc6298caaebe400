/- 'known' of the pool's laws; PoolOfNothing. -/
import Derived.Test.YtkcncnbjojejeaaPool3
namespace Go.Proofs.Ytkcncnbjojejeaa
open Go.RowKit
theorem room_at (a b S f : Nat) (q : List Int) (r : Int) (w : World) (h : RingRep w a b S f q) (hr : (S : Int) - q.length = r) :
    Calls Try.prog 29 #[.pointer (some ⟨a, 0, none⟩)] w fun e w' => e = .returned (.int .i64 r) ∧ Keeps [] w w' := by
  subst hr
  have h5 := h.2.2.2.2.1
  refine (room_any a q.length S S _ w h.c0 h.c2 (by omega) (by omega) h.2.2.1).mono ?_
  rintro e w' ⟨rfl, k, rfl⟩
  exact ⟨rfl, (Keeps.refl _ _).drewN _⟩
set_option maxRecDepth 100000 in
set_option maxHeartbeats 1000000 in
theorem pknown_any (w : World) : Calls Try.prog 34 #[] w fun e w' => e = .returned (.bool true) ∧ Keeps [] w w' := by
  go_enter Try.func34, Try.ntmps34
  go_wp2_with fail
  refine (pnew_ok 2 8 _ (by omega) (by omega) (by omega)).mono ?_
  rintro e w1 ⟨rfl, hp, hk⟩
  obtain ⟨p, hpe⟩ : ∃ p, w.heap.size + 1 = p := ⟨_, rfl⟩
  obtain ⟨g, hge⟩ : ∃ g, w.heap.size = g := ⟨_, rfl⟩
  rw [hpe, hge] at hp
  rw [hpe]
  have hfp : w.heap.size ≤ p := by omega
  have hfg : w.heap.size ≤ g := by omega
  clear hpe hge
  have hp1 : PoolRep w1 p g [false, false] 8 0 := hp
  clear hp
  go_wp2_with fail
  refine (get_ok p g 8 0 0 [false, false] _ hp1 (by simp) (by omega) rfl).mono ?_
  rintro e w2 ⟨a, b, rfl, hp2', hr2, ha, hb, hk2⟩
  have hp2 : PoolRep w2 p g [true, false] 8 1 := hp2'
  have hk2' : Keeps [] w w2 := hk.trans hk2 (by simp; omega)
  have hap : p < a ∧ g < b := by have := hp1.lt; omega
  have hag : g < a ∧ p < b := by have := hp1.lt; omega
  clear hp2' hk2 hk hp1
  go_wp2_with fail
  refine (get_ok p g 8 1 1 [true, false] _ hp2 (by simp) (by intro j hj; have : j = 0 := (by omega); subst this; rfl) rfl).mono ?_
  rintro e w3 ⟨a2, b2, rfl, hp3', -, -, -, hk3⟩
  have hp3 : PoolRep w3 p g [true, true] 8 2 := hp3'
  have hk3' : Keeps [] w w3 := hk2'.trans hk3 (by simp; omega)
  have hr3 := hr2.keeps hk3 (by simp; omega) (by simp; omega)
  clear hp3' hk3 hk2' hp2 hr2
  go_wp2_with fail
  refine (get_full p g 8 2 [true, true] _ hp3 (by intro j hj; simp at hj; have : j = 0 ∨ j = 1 := (by omega); rcases this with rfl | rfl <;> rfl)).mono ?_
  rintro e w4 ⟨rfl, rfl⟩
  go_wp2_with fail
  refine (put_any p g 8 2 [true, true] _ [0, 0, 7] _ ?_ ?_).mono ?_
  · exact hp3.keeps ((Keeps.refl [] _).alloc _) (by simp) (by simp)
  · have h := CellsIn.newM w3 [p, g] [.int .i64 0, .int .i64 0, .int .i64 7] 3 (0, 0) (by have := hp3.lt; simp; omega) (by simp)
    simpa using h
  rintro e w5 ⟨rfl, hp5', hk5⟩
  have hp5 : PoolRep w5 p g [false, true] 8 2 := hp5'
  have hk5a : Keeps [p, g] w3 w5 := ((Keeps.refl [p, g] w3).alloc _).trans hk5 (by intro x hx; exact .inl hx)
  have hk5' : Keeps [] w w5 := hk3'.trans hk5a (by simp; omega)
  have hr5 := hr3.keeps hk5a (by simp; omega) (by simp; omega)
  have e5 : (([true, true].count true : Nat) : Int) - (([0, 0, 7] : List Int).foldl putStep [true, true]).count true = 1 := rfl
  rw [e5]
  clear hp5' hk5 hk5a hk3' hp3 hr3 e5
  go_wp2_with fail
  refine (get_ok p g 8 2 0 [false, true] _ hp5 (by simp) (by omega) rfl).mono ?_
  rintro e w6 ⟨a6, b6, rfl, -, -, -, -, hk6⟩
  have hk6' : Keeps [] w w6 := hk5'.trans hk6 (by simp; omega)
  have hr6 := hr5.keeps hk6 (by simp; omega) (by simp; omega)
  clear hk6 hk5' hp5 hr5
  go_wp2_with (go_at_call 29; refine (room_at a b 8 0 [] 8 _ hr6 (by simp)).mono ?_; rintro e w7 ⟨rfl, hk7⟩)
  go_ret
  exact ⟨rfl, hk6'.trans hk7 (by simp)⟩
theorem poolOfNothing_walk (w : World) (n : Int) (_ : (Lit.int .i64 n).wf = true) :
    Calls Try.prog 8 #[.int .i64 n] w fun e w' => e = .returned (.bool true) ∧ Below w.heap.size w w' := by
  go_enter Try.func8, Try.ntmps8
  go_wp2_with (first
    | (go_at_call 31; refine (get_nil _).mono ?_; rintro e w1 ⟨rfl, rfl⟩)
    | (go_at_call 32; refine (lent_nil _).mono ?_; rintro e w2 ⟨rfl, rfl⟩)
    | (go_at_call 33; refine (put_nil _ _).mono ?_; rintro e w3 ⟨rfl, rfl⟩)
    | (go_at_call 34; refine (pknown_any _).mono ?_; rintro e w4 ⟨rfl, hk4⟩))
  go_ret
  exact ⟨rfl, (((Keeps.refl [] w).alloc _).trans hk4 (by simp)).below (Nat.le_refl _) (by simp)⟩
end Go.Proofs.Ytkcncnbjojejeaa
