/- The slab: what it is in memory; New, at, Get, Set, Len by contract. -/
import Derived.Test.YtkeffebcmajhmaaBase5
import Derived.Test.YtkeffebcmajhmaaRows
import Derived.Deep.QuietTactic
import Derived.BigQuiet
import Derived.StillTailTactics
import Derived.Deep.LoopGhost
import Derived.Deep.RegionHeld3
import Derived.Deep.RegionLaw
import Derived.Deep.DeepCutAuto
namespace Go.Proofs.Ytkeffebcmajhmaa
open Go.RowKit
abbrev Slot := Int × Bool × Int
def slotsV (L : List Slot) : List Value := L.flatMap fun d => [.int .i64 d.1, .bool d.2.1, .int .i64 d.2.2]
theorem slotsV_length (L : List Slot) : (slotsV L).length = L.length * 3 := by
  induction L with
  | nil => rfl
  | cons d L ih => simp only [slotsV, List.flatMap_cons, List.length_append, List.length_cons, List.length_nil] at ih ⊢; omega
theorem slotsV_append (L M : List Slot) : slotsV (L ++ M) = slotsV L ++ slotsV M := by simp [slotsV]
theorem slotsV_get (L : List Slot) (k : Nat) (d : Slot) (h : L[k]? = some d) : (slotsV L)[k * 3]? = some (.int .i64 d.1) ∧ (slotsV L)[k * 3 + 1]? = some (.bool d.2.1) ∧ (slotsV L)[k * 3 + 2]? = some (.int .i64 d.2.2) := by
  induction L generalizing k with
  | nil => simp at h
  | cons e L ih =>
    cases k with
    | zero => simp at h; subst h; simp [slotsV]
    | succ k =>
      have h' := ih k (by simpa using h)
      have e1 : (k + 1) * 3 = k * 3 + 1 + 1 + 1 := by omega
      rw [e1]
      simp only [slotsV, List.flatMap_cons, List.cons_append, List.nil_append] at h' ⊢
      refine ⟨?_, ?_, ?_⟩
      · simpa using h'.1
      · have e2 : k * 3 + 1 + 1 + 1 + 1 = (k * 3 + 1) + 1 + 1 + 1 := by omega
        rw [e2]; simpa using h'.2.1
      · have e2 : k * 3 + 1 + 1 + 1 + 2 = (k * 3 + 2) + 1 + 1 + 1 := by omega
        rw [e2]; simpa using h'.2.2
theorem slotsV_set (L : List Slot) (k : Nat) (d e : Slot) (h : L[k]? = some d) :
    (((slotsV L).set (k * 3) (.int .i64 e.1)).set (k * 3 + 1) (.bool e.2.1)).set (k * 3 + 2) (.int .i64 e.2.2) = slotsV (L.set k e) := by
  induction L generalizing k with
  | nil => simp at h
  | cons c L ih =>
    cases k with
    | zero => simp [slotsV]
    | succ k =>
      have h' := ih k (by simpa using h)
      have e1 : (k + 1) * 3 = k * 3 + 1 + 1 + 1 := by omega
      have e2 : k * 3 + 1 + 1 + 1 + 1 = (k * 3 + 1) + 1 + 1 + 1 := by omega
      have e3 : k * 3 + 1 + 1 + 1 + 2 = (k * 3 + 2) + 1 + 1 + 1 := by omega
      rw [e1, e2, e3]
      simp only [slotsV, List.flatMap_cons, List.cons_append, List.nil_append, List.set_cons_succ] at h' ⊢
      rw [h']
theorem set_self {α : Type} (l : List α) (k : Nat) (x : α) (h : l[k]? = some x) : l.set k x = l := by
  apply List.ext_getElem?
  intro i
  rw [List.getElem?_set]
  split
  · rename_i e; subst e
    split
    · rw [h]
    · rename_i h1; rw [List.getElem?_eq_none (by omega)]
  · rfl
theorem slotsV_used (L : List Slot) (k : Nat) (d : Slot) (u : Bool) (h : L[k]? = some d) : (slotsV L).set (k * 3 + 1) (.bool u) = slotsV (L.set k (d.1, u, d.2.2)) := by
  obtain ⟨h0, h1, h2⟩ := slotsV_get L k d h
  have := slotsV_set L k d (d.1, u, d.2.2) h
  rw [← this, set_self _ _ _ h0]
  refine (set_self _ _ _ ?_).symm
  rw [List.getElem?_set_ne (by omega)]
  exact h2
theorem slotsV_v (L : List Slot) (k : Nat) (d : Slot) (v : Int) (h : L[k]? = some d) : (slotsV L).set (k * 3 + 2) (.int .i64 v) = slotsV (L.set k (d.1, d.2.1, v)) := by
  obtain ⟨h0, h1, h2⟩ := slotsV_get L k d h
  have := slotsV_set L k d (d.1, d.2.1, v) h
  rw [← this, set_self _ _ _ h0, set_self _ _ _ h1]
/-- Block s is a slab: its slots, how many are in use. -/
def SRep (w : World) (s : Nat) (F : List Nat) (lim : Int) (L : List Slot) (n : Int) : Prop :=
  ∃ vs, Blk w s 134 #[.int .i64 lim, vs, .int .i64 n] ∧ Row w 136 3 vs L.length (slotsV L) ∧ (∀ k ∈ F, k < w.heap.size) ∧ s ∈ F ∧ (∀ k, vs.ownBlock = some k → k ∈ F)
section
variable {w w' : World} {s : Nat} {F : List Nat} {lim n : Int} {L : List Slot}
theorem SRep.keeps {K : List Nat} (h : SRep w s F lim L n) (hk : Keeps K w w') (hd : ∀ k ∈ F, k ∉ K) : SRep w' s F lim L n := by
  obtain ⟨vs, h1, h2, h3, h4, h5⟩ := h
  exact ⟨vs, h1.keeps hk (hd _ h4), h2.keeps hk (fun k e => hd _ (h5 k e)), fun k e => Nat.lt_of_lt_of_le (h3 k e) hk.size, h4, h5⟩
theorem SRep.flt (h : SRep w s F lim L n) : ∀ k ∈ F, k < w.heap.size := by
  obtain ⟨_, _, _, h3, _⟩ := h
  exact h3
end
def Later (F : List Nat) (w : World) (F' : List Nat) : Prop := ∀ k ∈ F', k ∈ F ∨ w.heap.size ≤ k
theorem Later.trans {F G H : List Nat} {w w' : World} (h : Later F w G) (h' : Later G w' H) (hs : w.heap.size ≤ w'.heap.size) : Later F w H := fun k hk => by
  rcases h' k hk with h1 | h1
  · exact h k h1
  · exact .inr (by omega)
theorem Later.refl (F : List Nat) (w : World) : Later F w F := fun _ h => .inl h
theorem Later.from {F F' : List Nat} {w : World} {B : Nat} (h : Later F w F') (hF : ∀ k ∈ F, B ≤ k) (hB : B ≤ w.heap.size) : ∀ k ∈ F', B ≤ k := fun k hk => by
  rcases h k hk with h1 | h1
  · exact hF k h1
  · omega
theorem slot_info : (Try.prog.info? 136).map (fun i => (i.zero, i.size, i.bytes)) = some (some (.agg #[.int .i64 0, .bool false, .int .i64 0]), 3, 24) := by kernel_rfl
theorem snew_bad (n : Int) (w : World) (h : n < 1 ∨ (1 ≤ n ∧ 4096 < n)) :
    Calls Try.prog 19 #[.int .i64 n] w fun e w' => e = .returned (.tuple #[.pointer none, .int .i64 1]) ∧ w = w' := by
  rcases h with h | ⟨h0, h⟩
  all_goals
    go_enter Try.func19, Try.ntmps19
    go_wp2
    go_ret2
    exact ⟨rfl, rfl⟩
theorem snew_ok (n : Int) (w : World) (h1 : 1 ≤ n) (h2 : n ≤ 4096) :
    Calls Try.prog 19 #[.int .i64 n] w fun e w' => e = .returned (.tuple #[.pointer (some ⟨w.heap.size, 0, none⟩), .int .i64 0]) ∧ SRep w' w.heap.size [w.heap.size] n [] 0 ∧ Keeps [] w w' := by
  have h1' : ¬ n < 1 := by omega
  have h2' : ¬ 4096 < n := by omega
  go_enter Try.func19, Try.ntmps19
  go_wp2
  go_ret2
  exact ⟨rfl, ⟨.slice none 0 0, Blk.new _ _ _, Row.nil _ _ _, by simp, by simp, by simp [Value.ownBlock]⟩, (Keeps.refl [] w).alloc _⟩
/-- Is a Handle in use? -/
def hit (L : List Slot) (i g : Int) : Bool := decide (0 ≤ i) && (match L[i.toNat]? with
  | some d => d.2.1 && d.1 == g
  | none => false)
end Go.Proofs.Ytkeffebcmajhmaa
