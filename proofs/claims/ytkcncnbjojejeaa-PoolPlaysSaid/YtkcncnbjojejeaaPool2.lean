/- The pool: Get of a ring that is there, Put, by contract. -/
import Derived.Test.YtkcncnbjojejeaaPool1
namespace Go.Proofs.Ytkcncnbjojejeaa
open Go.RowKit
theorem count_set_true (L : List Bool) (i : Nat) (h : i < L.length) (hf : L.getD i false = false) : (L.set i true).count true = L.count true + 1 := by
  rw [List.count_set h]
  simp [h] at hf
  simp [hf]
theorem count_set_false (L : List Bool) (i : Nat) (h : i < L.length) (hf : L.getD i false = true) : (L.set i false).count true + 1 = L.count true := by
  rw [List.count_set h]
  simp [h] at hf
  have : 0 < L.count true := List.count_pos_iff.2 (by rw [← hf]; exact List.getElem_mem h)
  simp [hf]
  omega
theorem getD_set (L : List Bool) (i j : Nat) (x : Bool) (h : i < L.length) : (L.set i x).getD j false = if j = i then x else L.getD j false := by
  simp only [List.getD_eq_getElem?_getD, List.getElem?_set]
  by_cases e : i = j
  · subst e
    simp [h]
  · simp [e, Ne.symm e]
/-- What the three stores of Get leave. -/
theorem pool_lent {w1 : World} {p g size most k M : Nat} {L : List Bool} {c m : Int} (q1 : Blk w1 p 77 #[.slice (some ⟨g, 0, none⟩) L.length L.length, .int .i64 size, .int .i64 (L.count true), .int .i64 most])
    (q2 : w1.rowIs g 4 L.length (fun i => .bool (L.getD i false))) (h3 : L.length ≤ 4096) (h4 : 1 ≤ size) (h5 : size ≤ 65536) (hM : M ≤ 4096) (hne : p ≠ g) (hk : k < L.length) (x : Bool) (hc : c = (L.set k x).count true) (hm : m = M) :
    PoolRep (((w1.setCell ⟨g, k, none⟩ (.bool x)).setCell ⟨p, 2, none⟩ (.int .i64 c)).setCell ⟨p, 3, none⟩ (.int .i64 m)) p g (L.set k x) size M := by
  subst hc hm
  refine ⟨?_, ?_, by simpa using h3, h4, h5, hM⟩
  · rw [List.length_set]
    exact ((q1.far (p := ⟨g, k, none⟩) hne _).set_ 2 _).set_ 3 _
  · rw [List.length_set]
    exact (((q2.set k (.bool x)).setOther (a := ⟨p, 2, none⟩) (Ne.symm hne) _).setOther (a := ⟨p, 3, none⟩) (Ne.symm hne) _).congr (fun i hi => by
      rw [getD_set L k i x hk]
      split <;> rfl)
def GotRing (w : World) (p g size most i : Nat) (L : List Bool) (e : Ending) (w' : World) : Prop :=
  ∃ a b, e = .returned (.tuple #[.int .i64 i, .pointer (some ⟨a, 0, none⟩), .int .i64 0]) ∧
      PoolRep w' p g (L.set i true) size (max most (L.count true + 1)) ∧ RingRep w' a b size 0 [] ∧ w.heap.size ≤ a ∧ w.heap.size ≤ b ∧ Keeps [p, g] w w'
set_option maxRecDepth 100000 in
set_option maxHeartbeats 1000000 in
theorem get_ok (p g size most i : Nat) (L : List Bool) (w : World) (h : PoolRep w p g L size most) (hi : i < L.length) (hall : ∀ j, j < i → L.getD j false = true) (hif : L.getD i false = false) :
    Calls Try.prog 31 #[.pointer (some ⟨p, 0, none⟩)] w (GotRing w p g size most i L) := by
  have HP := hid h
  have hne := h.ne
  obtain ⟨h1, h2, h3, h4, h5, h6⟩ := h
  have hcl : L.count true ≤ L.length := List.count_le_length
  have c0 := h1.cell 0
  have c1 := h1.cell 1
  have c2 := h1.cell 2
  have c3 := h1.cell 3
  simp at c0 c1 c2 c3
  have HL := hid hall
  have H1 := hid h1
  clear h1 hall
  go_enter Try.func31, Try.ntmps31
  go_wp2_with fail
  go_loop [5, 6, 16] (fun _ _ j => ∃ k : Nat, k ≤ i ∧ j = .int .i64 k) (fun _ _ j => L.length - (intOf j).toNat)
  case atStart => exact ⟨0, Nat.zero_le _, rfl⟩
  case round =>
    obtain ⟨k, hk, rfl⟩ := hrel
    have hc := h2.cell (i := k) (by omega)
    by_cases hlt : k < i
    · rw [HL.out k hlt] at hc
      go_wp2
      go_round
      case rel => exact ⟨k + 1, by omega, by go_num⟩
      case measure => simp [intOf] <;> omega
    · have hki : k = i := by omega
      subst hki
      rw [hif] at hc
      go_wp2_with fail
      refine (new_ok size _ h4 h5).mono ?_
      rintro e w1 ⟨rfl, hr, hkp⟩
      have hp1 := HP.out.keeps hkp (by simp) (by simp)
      obtain ⟨q1, q2, -⟩ := hp1
      have d0 := q1.cell 0
      have d2 := q1.cell 2
      have d3 := q1.cell 3
      simp at d0 d2 d3
      have e2 := q1.frozen 2
      have e3 := q1.frozen 3
      have gc := q2.cell hi
      have gf := q2.frozen k
      have HR := hid hr
      have HK := hid hkp
      have Q1 := hid q1
      have Q2 := hid q2
      clear hr hkp q1 q2 c0 c1 c2 c3 hc
      go_wp2_with fail
      go_region_law (fail)
      all_goals go_wp2
      all_goals
        go_ret3
        have hcs := count_set_true L k hi hif
        have hcl2 : (L.set k true).count true ≤ L.length := by have := List.count_le_length (l := L.set k true) (a := true); simpa using this
        have hlt := HP.out.lt
        obtain ⟨M, hM⟩ : ∃ M, max most (L.count true + 1) = M := ⟨_, rfl⟩
        have hK := (((Keeps.mono HK.out (G := [p, g]) (by simp)).setCell (p := ⟨g, k, none⟩) (.inl (by simp)) (.bool true)).setCell (p := ⟨p, 2, none⟩) (.inl (by simp)) (.int .i64 (((L.count true : Nat) : Int) + 1))).setCell (p := ⟨p, 3, none⟩) (.inl (by simp)) (.int .i64 M)
        have hP := pool_lent (c := ((L.count true : Nat) : Int) + 1) (m := M) (M := M) Q1.out Q2.out h3 h4 h5 (by omega) hne hi true (by omega) rfl
        have hRR := ((HR.out.keeps ((Keeps.refl [g] w1).setCell (p := ⟨g, k, none⟩) (.inl (by simp)) (.bool true)) (by simp; omega) (by simp; omega)).keeps ((Keeps.refl [p] _).setCell (p := ⟨p, 2, none⟩) (.inl (by simp)) (.int .i64 (((L.count true : Nat) : Int) + 1))) (by simp; omega) (by simp; omega)).keeps ((Keeps.refl [p] _).setCell (p := ⟨p, 3, none⟩) (.inl (by simp)) (.int .i64 M)) (by simp; omega) (by simp; omega)
        first
          | (have e : (M : Int) = most := by omega
             rw [e] at hP hK hRR
             exact ⟨_, _, rfl, by rw [hM]; exact hP, hRR, by omega, Nat.le_refl _, hK.drew⟩)
          | (have e : (M : Int) = ((L.count true : Nat) : Int) + 1 := by omega
             rw [e] at hP hK hRR
             exact ⟨_, _, rfl, by rw [hM]; exact hP, hRR, by omega, Nat.le_refl _, hK.drew⟩)
end Go.Proofs.Ytkcncnbjojejeaa
