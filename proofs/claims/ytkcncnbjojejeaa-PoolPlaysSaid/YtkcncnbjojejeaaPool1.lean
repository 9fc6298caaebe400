/- The pool: what it is in memory; New, Lent, Get by contract. -/
import Derived.Test.YtkcncnbjojejeaaNil3
import Derived.Test.YtkcncnbjojejeaaBase4
import Derived.Deep.RegionLaw
namespace Go.Proofs.Ytkcncnbjojejeaa
open Go.RowKit
theorem bool_info : (Try.prog.info? 4).map (fun i => (i.zero, i.size, i.bytes)) = some (some (.bool false), 1, 1) := by kernel_rfl
/-- Block p is a Pool over the row g: L says which rings are lent, most how many were at once. -/
def PoolRep (w : World) (p g : Nat) (L : List Bool) (size most : Nat) : Prop :=
  Blk w p 77 #[.slice (some ⟨g, 0, none⟩) L.length L.length, .int .i64 size, .int .i64 (L.count true), .int .i64 most] ∧ w.rowIs g 4 L.length (fun i => .bool (L.getD i false)) ∧
    L.length ≤ 4096 ∧ 1 ≤ size ∧ size ≤ 65536 ∧ most ≤ 4096
section
variable {w w' : World} {p g size most : Nat} {L : List Bool}
theorem PoolRep.lt (h : PoolRep w p g L size most) : p < w.heap.size ∧ g < w.heap.size := ⟨h.1.lt, h.2.1.lt⟩
theorem PoolRep.ne (h : PoolRep w p g L size most) : p ≠ g := by
  rintro rfl
  obtain ⟨h1, ⟨c, h2, _⟩, _⟩ := h
  exact Blk.ne_ (t' := 4) h1 h2 (by decide) rfl
theorem PoolRep.keeps {K : List Nat} (h : PoolRep w p g L size most) (hk : Keeps K w w') (hp : p ∉ K) (hg : g ∉ K) : PoolRep w' p g L size most := by
  obtain ⟨h1, h2, h3⟩ := h
  exact ⟨h1.keeps hk hp, h2.of_block (hk.block g h2.lt hg), h3⟩
end
theorem pnew_bad (n s : Int) (w : World) (h : n < 0 ∨ (0 ≤ n ∧ 4096 < n) ∨ (0 ≤ n ∧ n ≤ 4096 ∧ s < 1) ∨ (0 ≤ n ∧ n ≤ 4096 ∧ 1 ≤ s ∧ 65536 < s)) :
    Calls Try.prog 35 #[.int .i64 n, .int .i64 s] w fun e w' => e = .returned (.tuple #[.pointer none, .int .i64 1]) ∧ w = w' := by
  rcases h with h | ⟨h1, h⟩ | ⟨h1, h2, h⟩ | ⟨h1, h2, h3, h⟩
  all_goals
    go_enter Try.func35, Try.ntmps35
    go_wp2
    go_ret2
    exact ⟨rfl, rfl⟩
theorem count_replicate_false (n : Nat) : (List.replicate n false).count true = 0 := by
  rw [List.count_eq_zero]
  intro h
  simp at h
theorem pnew_ok (n s : Nat) (w : World) (h1 : n ≤ 4096) (h2 : 1 ≤ s) (h3 : s ≤ 65536) :
    Calls Try.prog 35 #[.int .i64 n, .int .i64 s] w fun e w' => e = .returned (.tuple #[.pointer (some ⟨w.heap.size + 1, 0, none⟩), .int .i64 0]) ∧
      PoolRep w' (w.heap.size + 1) w.heap.size (List.replicate n false) s 0 ∧ Keeps [] w w' := by
  have hmk := fun kl kc wx => run_make_row' (P := Try.prog) 67 4 (.bool false) 1 Try.underlying67 bool_info rfl kl kc n (by omega) (by omega) wx
  have i1 : (n : Int) ≤ 4096 := by omega
  have i2 : (1 : Int) ≤ s := by omega
  have i3 : (s : Int) ≤ 65536 := by omega
  go_enter Try.func35, Try.ntmps35
  go_wp2
  go_ret2
  refine ⟨rfl, ⟨?_, ?_, by simp; omega, h2, h3, by omega⟩, ((Keeps.refl _ _).alloc _).alloc _⟩
  · rw [count_replicate_false, List.length_replicate]
    simpa using Blk.new (w.alloc _) _ _
  · rw [List.length_replicate]
    exact ((World.rowIs_made w (.bool false) n 4).alloc _).congr (fun i hi => by simp [hi])
theorem lent_nil (w : World) : Calls Try.prog 32 #[.pointer none] w fun e w' => e = .returned (.tuple #[.int .i64 0, .int .i64 0]) ∧ w = w' := by
  go_enter Try.func32, Try.ntmps32
  go_wp2
  go_ret2
  exact ⟨rfl, rfl⟩
theorem lent_any (p g size most : Nat) (L : List Bool) (w : World) (h : PoolRep w p g L size most) :
    Calls Try.prog 32 #[.pointer (some ⟨p, 0, none⟩)] w fun e w' => e = .returned (.tuple #[.int .i64 (L.count true), .int .i64 most]) ∧ Keeps [] w w' := by
  obtain ⟨h1, -⟩ := h
  have c2 := h1.cell 2
  have c3 := h1.cell 3
  simp at c2 c3
  clear h1
  go_enter Try.func32, Try.ntmps32
  go_wp2
  go_quiet (fail)
  go_wp2
  go_ret2
  exact ⟨rfl, (Keeps.refl _ _).drewN _⟩
theorem get_nil (w : World) : Calls Try.prog 31 #[.pointer none] w fun e w' => e = .returned (.tuple #[.int .i64 0, .pointer none, .int .i64 1]) ∧ w = w' := by
  go_enter Try.func31, Try.ntmps31
  go_wp2
  go_ret3
  exact ⟨rfl, rfl⟩
theorem put_nil (v : Value) (w : World) : Calls Try.prog 33 #[.pointer none, v] w fun e w' => e = .returned (.int .i64 0) ∧ w = w' := by
  go_enter Try.func33, Try.ntmps33
  go_wp2
  go_ret
  exact ⟨rfl, rfl⟩
theorem get_full (p g size most : Nat) (L : List Bool) (w : World) (h : PoolRep w p g L size most) (hall : ∀ j, j < L.length → L.getD j false = true) :
    Calls Try.prog 31 #[.pointer (some ⟨p, 0, none⟩)] w fun e w' => e = .returned (.tuple #[.int .i64 0, .pointer none, .int .i64 3]) ∧ w = w' := by
  obtain ⟨h1, h2, h3, -⟩ := h
  have c0 := h1.cell 0
  simp at c0
  have HL := hid hall
  clear h1 hall
  go_enter Try.func31, Try.ntmps31
  go_wp2_with fail
  go_loop [5, 6, 16] (fun _ _ i => ∃ k : Nat, k ≤ L.length ∧ i = .int .i64 k) (fun _ _ i => L.length - (intOf i).toNat)
  case atStart => exact ⟨0, Nat.zero_le _, rfl⟩
  case round =>
    obtain ⟨k, hk, rfl⟩ := hrel
    by_cases hlt : k < L.length
    · have hc := h2.cell hlt
      rw [HL.out k hlt] at hc
      go_wp2
      go_round
      case rel => exact ⟨k + 1, by omega, by go_num⟩
      case measure => simp [intOf] <;> omega
    · have hkl : k = L.length := by omega
      subst hkl
      go_wp2
      go_ret3
      exact ⟨rfl, rfl⟩
end Go.Proofs.Ytkcncnbjojejeaa
