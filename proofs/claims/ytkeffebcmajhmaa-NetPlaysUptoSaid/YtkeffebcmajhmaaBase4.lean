/- Bytes as values; rows of different element types lie apart. -/
import Derived.Test.YtkeffebcmajhmaaBase3
namespace Go.Proofs.Ytkeffebcmajhmaa
open Go.RowKit
theorem Row.disj {w : World} {e e' : TypeId} {s s' : Nat} {v v' : Value} {n n' : Nat} {xs xs' : List Value} (h : Row w e s v n xs) (h' : Row w e' s' v' n' xs') (hne : e ≠ e') : ∀ k, v.ownBlock = some k → v'.ownBlock ≠ some k := by
  intro k hk hk'
  rcases h'.2 with ⟨rfl, _⟩ | ⟨g, off, cap, cur, rfl, hg, _⟩
  · simp [Value.ownBlock] at hk'
  · simp [Value.ownBlock] at hk'
    subst hk'
    exact h.blk_ne hg hne _ hk rfl
/-- what a cell holds behind a call that leaves it alone. -/
theorem cell_keep {w w' : World} {F : List Nat} {b o : Nat} {v : Value} (hk : Keeps F w w') (hb : b ∉ F) (h : w.cell? ⟨b, o, none⟩ = some v) : w'.cell? ⟨b, o, none⟩ = some v :=
  (World.cell?_of_block (w := w) (w' := w') (a := ⟨b, o, none⟩) (hk.block b (World.block_lt_of_cell? w _ h) hb)).trans h
theorem reads_blk2 {w : World} {g : Nat} {t : TypeId} {u v : Value} (h : Blk w g t #[u, v]) : Reads w 2 (some ⟨g, 0, none⟩) 1 [u, v] :=
  ⟨rfl, fun _ => ⟨_, rfl, fun j x hj => by
    rw [Addr.add_lit, Nat.zero_add, h.cell]
    simpa using hj⟩⟩
theorem reads_blk1 {w : World} {g : Nat} {t : TypeId} {u : Value} (h : Blk w g t #[u]) : Reads w 1 (some ⟨g, 0, none⟩) 1 [u] :=
  ⟨rfl, fun _ => ⟨_, rfl, fun j x hj => by
    rw [Addr.add_lit, Nat.zero_add, h.cell]
    simpa using hj⟩⟩
end Go.Proofs.Ytkeffebcmajhmaa
