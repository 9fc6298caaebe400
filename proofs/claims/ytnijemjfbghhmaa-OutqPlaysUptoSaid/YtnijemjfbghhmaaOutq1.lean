/- The queue: what it is in memory; its calls by contract. -/
import Derived.Test.YtnijemjfbghhmaaBase4
import Derived.Test.YtnijemjfbghhmaaRows
import Derived.Deep.QuietTactic
import Derived.BigQuiet
import Derived.Deep.LoopGhost
import Derived.Deep.RegionHeld3
import Derived.Deep.RegionLaw
import Derived.BigRegion
import Derived.Lib.SliceRun
namespace Go.Proofs.Ytnijemjfbghhmaa
open Go.RowKit

def bytesV (q : List Int) : List Value := q.map (Value.int .u8)
theorem bytesV_one (q : List Int) : ∀ u ∈ bytesV q, u.oneCell' = true := by
  intro u hu
  unfold bytesV at hu
  obtain ⟨x, -, rfl⟩ := List.mem_map.1 hu
  rfl
def piecesV (ps : List (Int × Int)) : List Value := ps.flatMap fun p => [.int .i64 p.1, .int .i64 p.2]
theorem piecesV_length (ps : List (Int × Int)) : (piecesV ps).length = ps.length * 2 := by
  induction ps with
  | nil => rfl
  | cons p ps ih => simp [piecesV] at ih ⊢; omega
theorem piecesV_append (ps qs : List (Int × Int)) : piecesV (ps ++ qs) = piecesV ps ++ piecesV qs := by simp [piecesV]
theorem byte_info : (Try.prog.info? 5).map (fun i => (i.zero, i.size, i.bytes)) = some (some (.int .u8 0), 1, 1) := by kernel_rfl
theorem int_info : (Try.prog.info? 3).map (fun i => (i.zero, i.size, i.bytes)) = some (some (.int .i64 0), 1, 8) := by kernel_rfl
theorem piece_info : (Try.prog.info? 52).map (fun i => (i.zero, i.size, i.bytes)) = some (some (.agg #[.int .i64 0, .int .i64 0]), 2, 16) := by kernel_rfl

/-- Block a is a Queue: bytes bs left, pieces ps, so many laid; F are its blocks. -/
def QRep (w : World) (a : Nat) (F : List Nat) (bs : List Int) (ps : List (Int × Int)) (last : Int) : Prop :=
  ∃ vb vp, Blk w a 50 #[vb, vp, .int .i64 last] ∧ Row w 5 1 vb bs.length (bytesV bs) ∧ Row w 52 2 vp ps.length (piecesV ps) ∧
    (∀ k ∈ F, k < w.heap.size) ∧ a ∈ F ∧ (∀ k, vb.ownBlock = some k → k ∈ F) ∧ (∀ k, vp.ownBlock = some k → k ∈ F)
section
variable {w w' : World} {a : Nat} {F : List Nat} {bs : List Int} {ps : List (Int × Int)} {last : Int}
theorem QRep.keeps {K : List Nat} (h : QRep w a F bs ps last) (hk : Keeps K w w') (hd : ∀ k ∈ F, k ∉ K) : QRep w' a F bs ps last := by
  obtain ⟨vb, vp, h1, h2, h3, h4, h5, h6, h7⟩ := h
  exact ⟨vb, vp, h1.keeps hk (hd _ h5), h2.keeps hk (fun k e => hd _ (h6 k e)), h3.keeps hk (fun k e => hd _ (h7 k e)), fun k e => Nat.lt_of_lt_of_le (h4 k e) hk.size, h5, h6, h7⟩
end
theorem newq (w : World) : Calls Try.prog 8 #[] w fun e w' => e = .returned (.pointer (some ⟨w.heap.size, 0, none⟩)) ∧ QRep w' w.heap.size [w.heap.size] [] [] 0 ∧ Keeps [] w w' := by
  go_enter Try.func8, Try.ntmps8
  go_wp2
  go_ret
  exact ⟨rfl, ⟨.slice none 0 0, .slice none 0 0, Blk.new _ _ _, Row.nil _ _ _, Row.nil _ _ _, by simp, by simp, by simp [Value.ownBlock], by simp [Value.ownBlock]⟩, (Keeps.refl _ _).alloc _⟩
theorem qlen_nil (w : World) : Calls Try.prog 13 #[.pointer none] w fun e w' => e = .returned (.int .i64 0) ∧ w = w' := by
  go_enter Try.func13, Try.ntmps13
  go_wp2
  go_ret
  exact ⟨rfl, rfl⟩
theorem qlen_any (a : Nat) (F : List Nat) (bs : List Int) (ps : List (Int × Int)) (last : Int) (w : World) (h : QRep w a F bs ps last) :
    Calls Try.prog 13 #[.pointer (some ⟨a, 0, none⟩)] w fun e w' => e = .returned (.int .i64 bs.length) ∧ w = w' := by
  obtain ⟨vb, vp, h1, h2, -⟩ := h
  obtain ⟨A, c, rfl, -⟩ := h2.form
  have c0 := h1.cell 0
  simp at c0
  go_enter Try.func13, Try.ntmps13
  go_wp2
  go_ret
  exact ⟨rfl, rfl⟩
theorem Row.newBytes {w : World} (v : Value) (n : Nat) (xs : List Value) (h : Row w 5 1 v n xs) : ∃ A c, v = .slice A n c := by
  obtain ⟨A, c, rfl, -⟩ := h.form
  exact ⟨A, c, rfl⟩
theorem clone_any (v : Value) (xs : List Int) (w : World) (hv : CellsIn w [] v (bytesV xs)) (hx : xs.length ≤ 1099511627776) :
    Calls Try.prog 27 #[v] w fun e w' => ∃ v', e = .returned v' ∧ Row w' 5 1 v' xs.length (bytesV xs) ∧ (∀ k, v'.ownBlock = some k → w.heap.size ≤ k) ∧ Keeps [] w w' := by
  obtain ⟨i0, hi0, hz0, hz1, hz2⟩ := info_parts byte_info
  have HV := hid hv
  obtain ⟨A, c, rfl, h1, h2⟩ := hv.shape
  have hxl : (bytesV xs).length = xs.length := by simp [bytesV]
  rw [hxl] at HV h1 ⊢
  clear hv hxl
  have hnil := fun wx : World => Lib.run_eql_slice_nil (P := Try.prog) wx 24 5 A xs.length c 0 0 Try.underlying24
  cases A with
  | none =>
    have hx0 : xs = [] := by
      rcases Nat.eq_zero_or_pos xs.length with h | h
      · exact List.eq_nil_of_length_eq_zero h
      · obtain ⟨b, o, hh, -⟩ := HV.out.at_ (by simpa [bytesV] using h)
        cases hh
    subst hx0
    simp only [List.length_nil] at hnil ⊢
    go_enter Try.func27, Try.ntmps27
    go_wp2
    go_ret
    exact ⟨_, rfl, Row.nil _ _ _, by simp [Value.ownBlock], Keeps.refl _ _⟩
  | some ad =>
    have HR := hid (HV.out.alloc (.cells #[] 5)).reads.2
    go_enter Try.func27, Try.ntmps27
    go_wp2_with (at_builtin; refine wpList_append_row _ rfl (.tmp 5) (.tmp 6) _ rfl 5 i0 _ 1 1 Try.underlying24 hi0 hz0 hz1 hz2 rfl (by omega) (.slice (some ⟨w.heap.size, 0, none⟩) 0 0) 0 [] rfl (Row.empty w _) (some ad) xs.length c _ rfl HR.out (bytesV_one _) (by simp only [maxLen]; omega) (by omega) ?_; intro v3 w3 hv3 hk3 hob3)
    go_ret
    simp only [Nat.zero_add, List.nil_append] at hv3
    refine ⟨_, rfl, hv3, fun k hk => ?_, ((Keeps.refl [] w).alloc _).trans hk3 (by simp [Value.ownBlock])⟩
    rcases hob3 k hk with h | h
    · simp [Value.ownBlock] at h; omega
    · simp at h; omega
/-- how many of L are meant by the number n. -/
def clip (n : Int) (L : Nat) : Nat := if n ≤ 0 then 0 else min n.toNat L
theorem clip_le (n : Int) (L : Nat) : clip n L ≤ L := by unfold clip; split <;> omega
theorem clip_self (L : Nat) : clip (L : Int) L = L := by unfold clip; split <;> omega
theorem clip_nat (k L : Nat) (h : k ≤ L) : clip (k : Int) L = k := by unfold clip; split <;> omega
/-- The first bytes: not copied. -/
theorem first_any (a : Nat) (F : List Nat) (bs : List Int) (ps : List (Int × Int)) (last : Int) (n : Int) (w : World) (h : QRep w a F bs ps last) :
    Calls Try.prog 28 #[.pointer (some ⟨a, 0, none⟩), .int .i64 n] w fun e w' => ∃ A c, e = .returned (.slice A (clip n bs.length) c) ∧ CellsIn w' [] (.slice A (clip n bs.length) c) (bytesV (bs.take (clip n bs.length))) ∧ Keeps [] w w' := by
  obtain ⟨vb, vp, h1, h2, -⟩ := h
  have HC := hid (h2.cellsIn (F := []) (by simp))
  obtain ⟨A, c, rfl, hc1, hc2, -, -⟩ := h2.form
  have c0 := h1.cell 0
  simp at c0
  have hcl := clip_le n bs.length
  obtain ⟨N, hN⟩ : ∃ N, (if (bs.length : Int) < n then (bs.length : Int) else n) = N := ⟨_, rfl⟩
  have hM : (if (0 : Int) < N then N else 0) = clip n bs.length := by
    subst hN
    unfold clip
    split <;> split <;> split <;> omega
  have HT : Hid (CellsIn w [] (.slice A (clip n bs.length) c) (bytesV (bs.take (clip n bs.length)))) := by
    refine hid ?_
    have h := HC.out.take (k := clip n bs.length) hcl
    simpa [bytesV] using h
  have HN := hid hN
  generalize clip n bs.length = k at *
  have hkc : (k : Int) ≤ c := by omega
  clear h1 h2
  go_enter Try.func28, Try.ntmps28
  go_wp2_with fail
  go_quiet (fail)
  go_wp2
  go_ret
  exact ⟨_, _, rfl, HT.out, (Keeps.refl _ _).drewN _⟩
end Go.Proofs.Ytnijemjfbghhmaa
