/- Both nets side by side. -/
import Derived.Test.YtkeffebcmajhmaaNRoomy
namespace Go.Proofs.Ytkeffebcmajhmaa
open Go.RowKit
set_option linter.unusedVariables false
set_option linter.unusedSimpArgs false
/-- the program's net and the reference's, since a world w1 in which they were F and G. -/
def NB (w1 : World) (F G : List Nat) (n x : Nat) (N M : NS) (w : World) : Prop :=
  ∃ F' G', NRep pc w n F' N ∧ NRep rc w x G' M ∧ LaterF F w1 F' ∧ LaterF G w1 G' ∧ (∀ k ∈ F', k ∉ G') ∧ Keeps (F ++ G) w1 w
section
variable {w1 w w' : World} {F G : List Nat} {n x : Nat} {N M : NS}
theorem NB.start (h1 : NRep pc w n F N) (h2 : NRep rc w x G M) (h3 : ∀ k ∈ F, k ∉ G) : NB w F G n x N M w :=
  ⟨F, G, h1, h2, fun k hk => .inl hk, fun k hk => .inl hk, h3, Keeps.refl _ _⟩
theorem NB.next (h : NB w1 F G n x N M w) (hk : Keeps [] w w') : NB w1 F G n x N M w' := by
  obtain ⟨F', G', h1, h2, h3, h4, h5, h6⟩ := h
  exact ⟨F', G', h1.keeps hk (by simp), h2.keeps hk (by simp), h3, h4, h5, h6.trans hk (by simp)⟩
theorem NB.keepsW (h : NB w1 F G n x N M w) : Keeps (F ++ G) w1 w := by
  obtain ⟨F', G', h1, h2, h3, h4, h5, h6⟩ := h
  exact h6
theorem NB.prog_ (h : NB w1 F G n x N M w) : ∃ F', NRep pc w n F' N ∧ (∀ k ∈ F', k ∈ F ∨ w1.heap.size ≤ k) ∧ ∀ N' w', NDone pc w n F' N' w' → NB w1 F G n x N' M w' := by
  obtain ⟨F', G', h1, h2, h3, h4, h5, h6⟩ := h
  refine ⟨F', h1, h3, fun N' w' hd => ?_⟩
  obtain ⟨⟨F2, g1, g2⟩, g3⟩ := hd
  have hz := h6.size
  refine ⟨F2, G', g1, h2.keeps g3 (fun k hk hx => h5 k hx hk), fun k hk => ?_, h4, fun k hk hx => ?_, h6.trans g3 (fun k hk => ?_)⟩
  · rcases g2 k hk with e | e
    · exact h3 k e
    · exact .inr (by omega)
  · rcases g2 k hk with e | e
    · exact h5 k e hx
    · have := h2.flt k hx
      omega
  · rcases h3 k hk with e | e
    · exact .inl (by simp [e])
    · exact .inr e
theorem NB.ref_ (h : NB w1 F G n x N M w) : ∃ G', NRep rc w x G' M ∧ (∀ k ∈ G', k ∈ G ∨ w1.heap.size ≤ k) ∧ ∀ M' w', NDone rc w x G' M' w' → NB w1 F G n x N M' w' := by
  obtain ⟨F', G', h1, h2, h3, h4, h5, h6⟩ := h
  refine ⟨G', h2, h4, fun M' w' hd => ?_⟩
  obtain ⟨⟨G2, g1, g2⟩, g3⟩ := hd
  have hz := h6.size
  refine ⟨F', G2, h1.keeps g3 (fun k hk hx => h5 k hk hx), g1, h3, fun k hk => ?_, fun k hk hx => ?_, h6.trans g3 (fun k hk => ?_)⟩
  · rcases g2 k hk with e | e
    · exact h4 k e
    · exact .inr (by omega)
  · rcases g2 k hx with e | e
    · exact h5 k hk e
    · have := h1.flt k hk
      omega
  · rcases h4 k hk with e | e
    · exact .inl (by simp [e])
    · exact .inr e
/-- a foreign block stays as it is. -/
theorem NB.blk (h : NB w1 F G n x N M w) {g : Nat} {t : TypeId} {cs : Array Value} (hb : Blk w1 g t cs) (hg : g ∉ F ++ G) : Blk w g t cs := hb.keeps h.keepsW hg
/-- a new beginning. -/
theorem NB.rebase (h : NB w1 F G n x N M w) : ∃ F' G', NRep pc w n F' N ∧ NRep rc w x G' M ∧ LaterF F w1 F' ∧ LaterF G w1 G' ∧ (∀ k ∈ F', k ∉ G') ∧ NB w F' G' n x N M w := by
  obtain ⟨F', G', h1, h2, h3, h4, h5, h6⟩ := h
  exact ⟨F', G', h1, h2, h3, h4, h5, NB.start h1 h2 h5⟩
theorem NB.trans {F' G' : List Nat} {N' M' : NS} (h0 : Keeps (F ++ G) w1 w) (h1 : LaterF F w1 F') (h2 : LaterF G w1 G') (h : NB w F' G' n x N' M' w') : NB w1 F G n x N' M' w' := by
  obtain ⟨F2, G2, g1, g2, g3, g4, g5, g6⟩ := h
  have hz := h0.size
  refine ⟨F2, G2, g1, g2, fun k hk => ?_, fun k hk => ?_, g5, h0.trans g6 (fun k hk => ?_)⟩
  · rcases g3 k hk with e | e
    · exact h1 k e
    · exact .inr (by omega)
  · rcases g4 k hk with e | e
    · exact h2 k e
    · exact .inr (by omega)
  · rcases List.mem_append.1 hk with e | e
    · rcases h1 k e with e | e
      · exact .inl (by simp [e])
      · exact .inr e
    · rcases h2 k e with e | e
      · exact .inl (by simp [e])
      · exact .inr e
/-- a block that is neither's has changed. -/
theorem NB.far {K : List Nat} (h : NB w1 F G n x N M w) (hk : Keeps K w w') (hK : ∀ k ∈ K, (∀ F', LaterF F w1 F' → NRep pc w n F' N → k ∉ F') ∧ (∀ G', LaterF G w1 G' → NRep rc w x G' M → k ∉ G') ∧ w1.heap.size ≤ k) : NB w1 F G n x N M w' := by
  obtain ⟨F', G', h1, h2, h3, h4, h5, h6⟩ := h
  exact ⟨F', G', h1.keeps hk (fun k hk hx => (hK k hx).1 F' h3 h1 hk), h2.keeps hk (fun k hk hx => (hK k hx).2.1 G' h4 h2 hk), h3, h4, h5, h6.trans hk (fun k hk => .inr (hK k hk).2.2)⟩
end
end Go.Proofs.Ytkeffebcmajhmaa
