/- The ring: what it is in memory; New, Skip, Find, Peek, Write by contract. -/
import Derived.Test.YtkcncnbjojejeaaRing1
import Derived.Deep.OwnRows
import Derived.Deep.RegionHeld3
namespace Go.Proofs.Ytkcncnbjojejeaa
open Go.RowKit

def bytesV (q : List Int) : List Value := q.map (Value.int .u8)
/-- Block a is a Ring over the row g of S bytes, which holds q from place f on. -/
def RingRep (w : World) (a g S f : Nat) (q : List Int) : Prop :=
  Blk w a 74 #[.slice (some ⟨g, 0, none⟩) S S, .int .i64 f, .int .i64 q.length] ∧ 1 ≤ S ∧ S ≤ 65536 ∧ f < S ∧ q.length ≤ S ∧
  ∃ F : Nat → Value, w.rowIs g 5 S F ∧ ∀ i, i < q.length → F ((f + i) % S) = .int .u8 (q.getD i 0)
section
variable {w w' : World} {a g S f : Nat} {q : List Int}
theorem RingRep.c0 (h : RingRep w a g S f q) : w.cell? ⟨a, 0, none⟩ = some (.slice (some ⟨g, 0, none⟩) S S) := by rw [h.1.cell]; rfl
theorem RingRep.c1 (h : RingRep w a g S f q) : w.cell? ⟨a, 1, none⟩ = some (.int .i64 f) := by rw [h.1.cell]; rfl
theorem RingRep.c2 (h : RingRep w a g S f q) : w.cell? ⟨a, 2, none⟩ = some (.int .i64 q.length) := by rw [h.1.cell]; rfl
theorem RingRep.lt (h : RingRep w a g S f q) : a < w.heap.size ∧ g < w.heap.size := by
  obtain ⟨h1, _, _, _, _, F, h2, _⟩ := h
  exact ⟨h1.lt, h2.lt⟩
theorem RingRep.ne (h : RingRep w a g S f q) : a ≠ g := by
  rintro rfl
  obtain ⟨h1, _, _, _, _, F, ⟨c, h2, _⟩, _⟩ := h
  exact Blk.ne_ (t' := 5) h1 h2 (by decide) rfl
theorem RingRep.keeps {K : List Nat} (h : RingRep w a g S f q) (hk : Keeps K w w') (ha : a ∉ K) (hg : g ∉ K) : RingRep w' a g S f q := by
  obtain ⟨h1, h2, h3, h4, h5, F, h6, h7⟩ := h
  exact ⟨h1.keeps hk ha, h2, h3, h4, h5, F, h6.of_block (hk.block g h6.lt hg), h7⟩
end

theorem byte_info : (Try.prog.info? 5).map (fun i => (i.zero, i.size, i.bytes)) = some (some (.int .u8 0), 1, 1) := by kernel_rfl

theorem new_bad (n : Int) (w : World) (h : n < 1 ∨ 65536 < n) :
    Calls Try.prog 14 #[.int .i64 n] w fun e w' => e = .returned (.tuple #[.pointer none, .int .i64 1]) ∧ w = w' := by
  rcases h with h | h
  · go_enter Try.func14, Try.ntmps14
    go_wp2
    go_ret2
    exact ⟨rfl, rfl⟩
  · have h' : 1 ≤ n := by omega
    go_enter Try.func14, Try.ntmps14
    go_wp2
    go_ret2
    exact ⟨rfl, rfl⟩
theorem new_ok (S : Nat) (w : World) (h1 : 1 ≤ S) (h2 : S ≤ 65536) :
    Calls Try.prog 14 #[.int .i64 S] w fun e w' => e = .returned (.tuple #[.pointer (some ⟨w.heap.size + 1, 0, none⟩), .int .i64 0]) ∧
      RingRep w' (w.heap.size + 1) w.heap.size S 0 [] ∧ Keeps [] w w' := by
  have hmk := fun kl kc wx => run_make_row' (P := Try.prog) 32 5 (.int .u8 0) 1 Try.underlying32 byte_info rfl kl kc S (by omega) (by omega) wx
  have h1' : (1 : Int) ≤ S := by omega
  have h2' : (S : Int) ≤ 65536 := by omega
  go_enter Try.func14, Try.ntmps14
  go_wp2
  go_ret2
  refine ⟨rfl, ⟨by simpa using Blk.new (w.alloc _) _ _, h1, h2, by omega, by simp, fun _ => .int .u8 0, ?_, by simp⟩, ((Keeps.refl _ _).alloc _).alloc _⟩
  exact (World.rowIs_made w (.int .u8 0) S 5).alloc _
end Go.Proofs.Ytkcncnbjojejeaa
