/- The ring: Skip by contract. -/
import Derived.Test.YtkcncnbjojejeaaRing2
import Derived.BigRegion
import Derived.Deep.RegionWith
namespace Go.Proofs.Ytkcncnbjojejeaa
open Go.RowKit
/-- how many of L are meant by the number n. -/
def clip (n : Int) (L : Nat) : Nat := if n ≤ 0 then 0 else min n.toNat L
theorem clip_le (n : Int) (L : Nat) : clip n L ≤ L := by unfold clip; split <;> omega
theorem clip_cases (n : Int) (L : Nat) : n = clip n L ∨ (clip n L = L ∧ clip n L < n) ∨ (clip n L = 0 ∧ n < 0) := by unfold clip; split <;> omega
theorem ring_idx {f k i S : Nat} : ((f + k) % S + i) % S = (f + (k + i)) % S := by rw [Nat.mod_add_mod, Nat.add_assoc]
theorem RingRep.moved {w w' : World} {a g S f : Nat} {q : List Int} (h : RingRep w a g S f q) {k : Nat} (hk : k ≤ q.length) {A1 A2 : Value}
    (hb : Blk w' a 74 #[.slice (some ⟨g, 0, none⟩) S S, A1, A2]) (h1 : A1 = .int .i64 (((f : Int) + k) % S)) (h2 : A2 = .int .i64 ((q.length : Int) - k)) (hkp : Keeps [a] w w') : RingRep w' a g S ((f + k) % S) (q.drop k) := by
  have hne := h.ne
  obtain ⟨_, hS1, hS2, hf, hq, F, hrow, hF⟩ := h
  refine ⟨?_, hS1, hS2, Nat.mod_lt _ (by omega), by rw [List.length_drop]; omega, F, hrow.of_block (hkp.block g hrow.lt (by simpa using hne.symm)), fun i hi => ?_⟩
  · subst h1 h2
    rw [List.length_drop, show ((q.length - k : Nat) : Int) = (q.length : Int) - k from by omega, Int.natCast_emod, Int.natCast_add]
    exact hb
  · rw [List.length_drop] at hi
    rw [ring_idx, hF (k + i) (by omega)]
    simp [List.getElem?_drop]
set_option maxHeartbeats 400000 in
theorem skip_t (a g S f : Nat) (q : List Int) (k : Nat) (n : Int) (w : World) (h : RingRep w a g S f q) (hk0 : 0 < k) (hk : k ≤ q.length) (hn : (n = k ∨ (k = q.length ∧ k < n))) :
    Calls Try.prog 21 #[.pointer (some ⟨a, 0, none⟩), .int .i64 n] w fun e w' => e = .returned (.int .i64 k) ∧ RingRep w' a g S ((f + k) % S) (q.drop k) ∧ Keeps [a] w w' := by
  obtain ⟨hb, hS1, hS2, hf, hq, F, hrow, hF⟩ := id h
  have h0 := h.c0
  have h1 := h.c1
  have h2 := h.c2
  have f0 := hb.frozen 1
  have f1 := hb.frozen 2
  have hm : (if (q.length : Int) < n then (q.length : Int) else n) = k := by split <;> omega
  have hm2 : (0 : Int) < k := by omega
  have hw : IntKind.i64.wrap ((q.length : Int) - k) = (q.length : Int) - k := IntWalk.i64_in _ (by omega)
  go_enter Try.func21, Try.ntmps21
  go_wp2_with (go_at_call 28; refine (len_any a _ _ h2).mono ?_; rintro e w' ⟨rfl, rfl⟩)

  go_region_with (go_at_call 39; refine (at_any a f k S S _ _ (by exact h0) (by exact h1) (by omega) (by omega) (by omega) (by omega) (by omega) (by omega)).mono ?_; rintro e w' ⟨rfl, kk, rfl⟩)

  all_goals
    go_wp2
    go_ret
    have HK : Keeps [a] w _ := (((Keeps.refl [a] w).drewN 0).setCell (p := ⟨a, 1, none⟩) (.inl (by simp)) (.int .i64 (((f : Int) + k) % S))).setCell (p := ⟨a, 2, none⟩) (.inl (by simp)) (.int .i64 ((q.length : Int) - k))
    exact ⟨rfl, h.moved hk (((hb.drewN _).set_ 1 _).set_ 2 _) rfl rfl ⟨rfl, rfl, rfl, HK.size, HK.block⟩, ⟨rfl, rfl, rfl, HK.size, HK.block⟩⟩

theorem skip_zero (a g S f : Nat) (q : List Int) (n : Int) (w : World) (h : RingRep w a g S f q) (hn : n ≤ 0 ∨ q.length = 0) :
    Calls Try.prog 21 #[.pointer (some ⟨a, 0, none⟩), .int .i64 n] w fun e w' => e = .returned (.int .i64 0) ∧ w = w' := by
  have h2 := h.c2
  obtain ⟨N, hN⟩ : ∃ N, (if (q.length : Int) < n then (q.length : Int) else n) = N := ⟨_, rfl⟩
  have hN0 : N ≤ 0 := by
    subst hN
    split <;> omega
  have hM : (if (0 : Int) < N then N else 0) = 0 := by rw [if_neg (by omega)]
  go_enter Try.func21, Try.ntmps21
  go_wp2_with (go_at_call 28; refine (len_any a _ _ h2).mono ?_; rintro e w' ⟨rfl, rfl⟩)
  go_ret
  exact ⟨rfl, rfl⟩
/-- Skip, whatever the number. -/
theorem skip_any (a g S f : Nat) (q : List Int) (n : Int) (w : World) (h : RingRep w a g S f q) :
    Calls Try.prog 21 #[.pointer (some ⟨a, 0, none⟩), .int .i64 n] w fun e w' => e = .returned (.int .i64 (clip n q.length)) ∧ (∃ f', RingRep w' a g S f' (q.drop (clip n q.length))) ∧ Keeps [a] w w' := by
  have hc := clip_cases n q.length
  have hl := clip_le n q.length
  by_cases h0 : clip n q.length = 0
  · refine (skip_zero a g S f q n w h (by omega)).mono ?_
    rintro e w' ⟨rfl, rfl⟩
    rw [h0]
    exact ⟨rfl, ⟨f, by simpa using h⟩, Keeps.refl _ _⟩
  · refine (skip_t a g S f q (clip n q.length) n w h (by omega) hl (by omega)).mono ?_
    rintro e w' ⟨rfl, h1, h2⟩
    exact ⟨rfl, ⟨_, h1⟩, h2⟩
end Go.Proofs.Ytkcncnbjojejeaa
