/- The reference's pool: what it is in memory; New, Get by contract. -/
import Derived.Test.YtkcncnbjojejeaaPool4
import Derived.Test.YtkcncnbjojejeaaRefr1
namespace Go.Proofs.Ytkcncnbjojejeaa
open Go.RowKit
set_option linter.unusedVariables false
def PR (w : World) (p g : Nat) (L : List Bool) (size most : Nat) : Prop :=
  Blk w p 69 #[.slice (some ⟨g, 0, none⟩) L.length L.length, .int .i64 size, .int .i64 (L.count true), .int .i64 most] ∧ w.rowIs g 4 L.length (fun i => .bool (L.getD i false)) ∧
    L.length ≤ 4096 ∧ 1 ≤ size ∧ size ≤ 65536 ∧ most ≤ 4096
section
variable {w w' : World} {p g size most : Nat} {L : List Bool}
theorem PR.lt (h : PR w p g L size most) : p < w.heap.size ∧ g < w.heap.size := ⟨h.1.lt, h.2.1.lt⟩
theorem PR.ne (h : PR w p g L size most) : p ≠ g := by
  rintro rfl
  obtain ⟨h1, ⟨c, h2, _⟩, _⟩ := h
  exact Blk.ne_ (t' := 4) h1 h2 (by decide) rfl
theorem PR.keeps {K : List Nat} (h : PR w p g L size most) (hk : Keeps K w w') (hp : p ∉ K) (hg : g ∉ K) : PR w' p g L size most := by
  obtain ⟨h1, h2, h3⟩ := h
  exact ⟨h1.keeps hk hp, h2.of_block (hk.block g h2.lt hg), h3⟩
end
theorem rpnew_bad (n s : Int) (w : World) (h : n < 0 ∨ (0 ≤ n ∧ 4096 < n) ∨ (0 ≤ n ∧ n ≤ 4096 ∧ s < 1) ∨ (0 ≤ n ∧ n ≤ 4096 ∧ 1 ≤ s ∧ 65536 < s)) :
    Calls Try.prog 36 #[.int .i64 n, .int .i64 s] w fun e w' => e = .returned (.tuple #[.pointer none, .int .i64 1]) ∧ w = w' := by
  rcases h with h | ⟨h1, h⟩ | ⟨h1, h2, h⟩ | ⟨h1, h2, h3, h⟩
  all_goals
    go_enter Try.func36, Try.ntmps36
    go_wp2
    go_ret2
    exact ⟨rfl, rfl⟩
theorem rpnew_ok (n s : Nat) (w : World) (h1 : n ≤ 4096) (h2 : 1 ≤ s) (h3 : s ≤ 65536) :
    Calls Try.prog 36 #[.int .i64 n, .int .i64 s] w fun e w' => e = .returned (.tuple #[.pointer (some ⟨w.heap.size + 1, 0, none⟩), .int .i64 0]) ∧
      PR w' (w.heap.size + 1) w.heap.size (List.replicate n false) s 0 ∧ Keeps [] w w' := by
  have hmk := fun kl kc wx => run_make_row' (P := Try.prog) 67 4 (.bool false) 1 Try.underlying67 bool_info rfl kl kc n (by omega) (by omega) wx
  have i1 : (n : Int) ≤ 4096 := by omega
  have i2 : (1 : Int) ≤ s := by omega
  have i3 : (s : Int) ≤ 65536 := by omega
  go_enter Try.func36, Try.ntmps36
  go_wp2
  go_ret2
  refine ⟨rfl, ⟨?_, ?_, by simp; omega, h2, h3, by omega⟩, ((Keeps.refl _ _).alloc _).alloc _⟩
  · rw [count_replicate_false, List.length_replicate]
    simpa using Blk.new (w.alloc _) _ _
  · rw [List.length_replicate]
    exact ((World.rowIs_made w (.bool false) n 4).alloc _).congr (fun i hi => by simp [hi])
theorem rpget_full (p g size most : Nat) (L : List Bool) (w : World) (h : PR w p g L size most) (hall : ∀ j, j < L.length → L.getD j false = true) :
    Calls Try.prog 37 #[.pointer (some ⟨p, 0, none⟩)] w fun e w' => e = .returned (.tuple #[.int .i64 0, .pointer none, .int .i64 3]) ∧ w = w' := by
  obtain ⟨h1, h2, h3, -⟩ := h
  have c0 := h1.cell 0
  simp at c0
  have HL := hid hall
  clear h1 hall
  go_enter Try.func37, Try.ntmps37
  go_wp2_with fail
  go_loop [5, 6, 7] (fun j _ _ => ∃ k : Nat, k ≤ L.length ∧ j = .int .i64 k) (fun j _ _ => L.length - (intOf j).toNat)
  case atStart => exact ⟨0, Nat.zero_le _, rfl⟩
  case round =>
    obtain ⟨k, hk, rfl⟩ := hrel
    by_cases hlt : k < L.length
    · have hc := h2.cell hlt
      rw [HL.out k hlt] at hc
      have hki : (k : Int) < L.length := by omega
      go_wp2
      go_round
      case rel => exact ⟨k + 1, by omega, by go_num⟩
      case measure => simp [intOf] <;> omega
    · have hki : k = L.length := by omega
      subst hki
      go_wp2
      go_ret3
      exact ⟨rfl, rfl⟩
/-- What the three stores of Get leave. -/
theorem pr_lent {w1 : World} {p g size most k M m : Nat} {L : List Bool} {c mm : Int} (q1 : Blk w1 p 69 #[.slice (some ⟨g, 0, none⟩) L.length L.length, .int .i64 size, .int .i64 (L.count true), .int .i64 most])
    (q2 : w1.rowIs g 4 L.length (fun i => .bool (L.getD i false))) (h3 : L.length ≤ 4096) (h4 : 1 ≤ size) (h5 : size ≤ 65536) (hM : M ≤ 4096) (hne : p ≠ g) (hk : k < L.length) (x : Bool) (hc : c = (L.set k x).count true) (hm : mm = M) :
    PR (((w1.setCell ⟨g, k, none⟩ (.bool x)).setCell ⟨p, 2, none⟩ (.int .i64 c)).setCell ⟨p, 3, none⟩ (.int .i64 mm)) p g (L.set k x) size M := by
  subst hc hm
  refine ⟨?_, ?_, by simpa using h3, h4, h5, hM⟩
  · rw [List.length_set]
    exact ((q1.far (p := ⟨g, k, none⟩) hne _).set_ 2 _).set_ 3 _
  · rw [List.length_set]
    exact (((q2.set k (.bool x)).setOther (a := ⟨p, 2, none⟩) (Ne.symm hne) _).setOther (a := ⟨p, 3, none⟩) (Ne.symm hne) _).congr (fun i hi => by
      rw [getD_set L k i x hk]
      split <;> rfl)
def GotRef (w : World) (p g size most i : Nat) (L : List Bool) (e : Ending) (w' : World) : Prop :=
  ∃ a, e = .returned (.tuple #[.int .i64 i, .pointer (some ⟨a, 0, none⟩), .int .i64 0]) ∧ PR w' p g (L.set i true) size (max most (L.count true + 1)) ∧ Keeps [p, g] w w'
set_option maxRecDepth 100000 in
set_option maxHeartbeats 1000000 in
theorem rpget_ok (p g size most i : Nat) (L : List Bool) (w : World) (h : PR w p g L size most) (hi : i < L.length) (hall : ∀ j, j < i → L.getD j false = true) (hif : L.getD i false = false) :
    Calls Try.prog 37 #[.pointer (some ⟨p, 0, none⟩)] w (GotRef w p g size most i L) := by
  have HP := hid h
  have hne := h.ne
  obtain ⟨q1, q2, h3, h4, h5, h6⟩ := h
  have hcl : L.count true ≤ L.length := List.count_le_length
  have d0 := q1.cell 0
  have d1 := q1.cell 1
  have d2 := q1.cell 2
  have d3 := q1.cell 3
  simp at d0 d1 d2 d3
  have e2 := q1.frozen 2
  have e3 := q1.frozen 3
  have HL := hid hall
  have Q1 := hid q1
  have Q2 := hid q2
  clear q1 q2 hall
  go_enter Try.func37, Try.ntmps37
  go_wp2_with fail
  go_loop [5, 6, 7] (fun j _ _ => ∃ k : Nat, k ≤ i ∧ j = .int .i64 k) (fun j _ _ => L.length - (intOf j).toNat)
  case atStart => exact ⟨0, Nat.zero_le _, rfl⟩
  case round =>
    obtain ⟨k, hk, rfl⟩ := hrel
    have hc := Q2.out.cell (i := k) (by omega)
    have hki : (k : Int) < L.length := by omega
    by_cases hlt : k < i
    · rw [HL.out k hlt] at hc
      go_wp2
      go_round
      case rel => exact ⟨k + 1, by omega, by go_num⟩
      case measure => simp [intOf] <;> omega
    · have hki : k = i := by omega
      subst hki
      rw [hif] at hc
      have gf := Q2.out.frozen k
      have i1 : (1 : Int) ≤ size := by omega
      have i2 : (size : Int) ≤ 65536 := by omega
      go_wp2_with fail
      go_region_law (fail)
      all_goals go_wp2
      all_goals
        go_ret3
        have hcs := count_set_true L k hi hif
        have hcl2 : (L.set k true).count true ≤ L.length := by have := List.count_le_length (l := L.set k true) (a := true); simpa using this
        have hlt := HP.out.lt
        obtain ⟨M, hM⟩ : ∃ M, max most (L.count true + 1) = M := ⟨_, rfl⟩
        have hK := (((Keeps.refl [p, g] w).setCell (p := ⟨g, k, none⟩) (.inl (by simp)) (.bool true)).setCell (p := ⟨p, 2, none⟩) (.inl (by simp)) (.int .i64 (((L.count true : Nat) : Int) + 1))).setCell (p := ⟨p, 3, none⟩) (.inl (by simp)) (.int .i64 M)
        have hP := pr_lent (m := 0) (c := ((L.count true : Nat) : Int) + 1) (mm := M) (M := M) Q1.out Q2.out h3 h4 h5 (by omega) hne hi true (by omega) rfl
        first
          | (have e : (M : Int) = most := by omega
             rw [e] at hP hK
             exact ⟨_, rfl, by rw [hM]; exact (hP.keeps (((Keeps.refl [] _).alloc _).drew) (by simp) (by simp)), (hK.alloc _).drew⟩)
          | (have e : (M : Int) = ((L.count true : Nat) : Int) + 1 := by omega
             rw [e] at hP hK
             exact ⟨_, rfl, by rw [hM]; exact (hP.keeps (((Keeps.refl [] _).alloc _).drew) (by simp) (by simp)), (hK.alloc _).drew⟩)
end Go.Proofs.Ytkcncnbjojejeaa
