/- The poller for the laws: its state, its steps. -/
import Derived.Test.YtkeffebcmajhmaaPoll11
namespace Go.Proofs.Ytkeffebcmajhmaa
open Go.RowKit
set_option linter.unusedVariables false
set_option linter.unusedSimpArgs false
/-- A poller newer than w0, and rows of Events lying aside. -/
def PS (w0 w : World) (pb n : Nat) (N : NS) (L : List Slot) (ds : WL) (A : List (Value × List Ev)) (C : List ((Nat × Nat) × Value)) : Prop :=
  ∃ F, PRep w pb n F N L ds ∧ (∀ k ∈ F, w0.heap.size ≤ k) ∧ Keeps [] w0 w ∧ (∀ r ∈ A, EvIn w F r.1 r.2) ∧ ∀ c ∈ C, c.1.1 ∉ F ∧ w.cell? ⟨c.1.1, c.1.2, none⟩ = some c.2
theorem EvIn.later {w : World} {F F' : List Nat} {v : Value} {l : List Ev} (h : EvIn w F v l) (hF : LaterF F w F') : EvIn w F' v l := by
  obtain ⟨A, c, hv, h1, h2, h3⟩ := h
  refine ⟨A, c, hv, h1, h2, fun hp => ?_⟩
  obtain ⟨b, o, hA, hb, hc⟩ := h3 hp
  refine ⟨b, o, hA, fun hx => ?_, hc⟩
  rcases hF b hx with e | e
  · exact hb e
  · obtain ⟨c1, -⟩ := hc 0 _ (List.getElem?_eq_getElem hp)
    have := World.block_lt_of_cell? w _ c1
    simp only at this
    omega
theorem EvIn.mono {w : World} {F G : List Nat} {v : Value} {l : List Ev} (h : EvIn w F v l) (hG : ∀ x ∈ G, x ∈ F) : EvIn w G v l := by
  obtain ⟨A, c, hv, h1, h2, h3⟩ := h
  refine ⟨A, c, hv, h1, h2, fun hp => ?_⟩
  obtain ⟨b, o, hA, hb, hc⟩ := h3 hp
  exact ⟨b, o, hA, fun hx => hb (hG b hx), hc⟩
section
variable {w0 w w' : World} {pb n : Nat} {N : NS} {L : List Slot} {ds : WL} {A : List (Value × List Ev)} {C : List ((Nat × Nat) × Value)}
theorem PS.next (h : PS w0 w pb n N L ds A C) (hk : Keeps [] w w') : PS w0 w' pb n N L ds A C := by
  obtain ⟨F, h1, h2, h3, h4, h5⟩ := h
  exact ⟨F, h1.keeps hk (by simp), h2, h3.trans hk (by simp), fun r hr => (h4 r hr).keeps hk (by simp), fun c hc => ⟨(h5 c hc).1, cell_keep hk (by simp) (h5 c hc).2⟩⟩
theorem PS.keepsW (h : PS w0 w pb n N L ds A C) : Keeps [] w0 w := by
  obtain ⟨F, h1, h2, h3, h4, h5⟩ := h
  exact h3
theorem PS.cell (h : PS w0 w pb n N L ds A C) : w.cell? ⟨pb, 0, none⟩ = some (.pointer (some ⟨n, 0, none⟩)) := by
  obtain ⟨F, ⟨s, m, Fn, Fs, es, clock, h, -⟩, -⟩ := h
  have := h.blk.cell 0
  simpa [pcells] using this
theorem PS.row (h : PS w0 w pb n N L ds A C) {r : Value × List Ev} (hr : r ∈ A) : EvIn w [] r.1 r.2 := by
  obtain ⟨F, h1, h2, h3, h4, h5⟩ := h
  obtain ⟨B, c, hv, g1, g2, g3⟩ := h4 r hr
  refine ⟨B, c, hv, g1, g2, fun hp => ?_⟩
  obtain ⟨b, o, hA, hb, hc⟩ := g3 hp
  exact ⟨b, o, hA, by simp, hc⟩
/-- a step of the poller. -/
theorem PS.step {F F' : List Nat} {N' : NS} {L' : List Slot} {ds' : WL} (h1 : PRep w' pb n F' N' L' ds') (hl : LaterF F w F') (hk : Keeps F w w') (h2 : ∀ k ∈ F, w0.heap.size ≤ k) (h3 : Keeps [] w0 w) (h4 : ∀ r ∈ A, EvIn w F r.1 r.2) (h5 : ∀ c ∈ C, c.1.1 ∉ F ∧ w.cell? ⟨c.1.1, c.1.2, none⟩ = some c.2) : PS w0 w' pb n N' L' ds' A C := by
  have hz := h3.size
  refine ⟨F', h1, fun k hk' => ?_, h3.trans hk (fun k hk' => .inr (h2 k hk')), fun r hr => ?_, fun c hc => ⟨fun hx => ?_, cell_keep hk (h5 c hc).1 (h5 c hc).2⟩⟩
  · rcases hl k hk' with e | e
    · exact h2 k e
    · omega
  · have ha : EvIn w (F ++ F') r.1 r.2 := (h4 r hr).later (fun k hk => by
      rcases List.mem_append.1 hk with e | e
      · exact .inl e
      · exact hl k e)
    exact (ha.keeps hk (fun x hx => .inl (List.mem_append_left _ hx))).mono (fun x hx => List.mem_append_right _ hx)
  · rcases hl _ hx with e | e
    · exact (h5 c hc).1 e
    · have := World.block_lt_of_cell? w _ (h5 c hc).2
      simp only at this
      omega
/-- one more cell lies aside. -/
theorem PS.aside (h : PS w0 w pb n N L ds A C) (hk : Keeps [] w w') {g i : Nat} {v : Value} (hp : w.heap.size ≤ g) (hc : w'.cell? ⟨g, i, none⟩ = some v) : PS w0 w' pb n N L ds A (((g, i), v) :: C) := by
  obtain ⟨F, h1, h2, h3, h4, h5⟩ := h.next hk
  obtain ⟨F0, g1, g2, g3, g4, g5⟩ := h
  refine ⟨F0, g1.keeps hk (by simp), g2, g3.trans hk (by simp), fun r hr => (g4 r hr).keeps hk (by simp), fun c hc' => ?_⟩
  rcases List.mem_cons.1 hc' with rfl | hc'
  · exact ⟨fun hx => by have := g1.flt _ hx; simp only at this; omega, hc⟩
  · exact ⟨(g5 c hc').1, cell_keep hk (by simp) (g5 c hc').2⟩
theorem PS.at_ (h : PS w0 w pb n N L ds A C) {c : (Nat × Nat) × Value} (hc : c ∈ C) : w.cell? ⟨c.1.1, c.1.2, none⟩ = some c.2 := by
  obtain ⟨F, h1, h2, h3, h4, h5⟩ := h
  exact (h5 c hc).2
/-- the net's steps. -/
theorem PS.net (h : PS w0 w pb n N L ds A C) : ∃ Fn, NRep pc w n Fn N ∧ (∀ k ∈ Fn, k < w.heap.size) ∧ ∀ N' w', NDone pc w n Fn N' w' → PS w0 w' pb n N' L ds A C := by
  obtain ⟨F, h1, h2, h3, h4, h5⟩ := h
  obtain ⟨Fn, g1, g2, g3⟩ := h1.net
  refine ⟨Fn, g1, fun k hk => h1.flt k (g2 k hk), fun N' w' hd => ?_⟩
  obtain ⟨F', e1, e2, e3⟩ := g3 N' w' hd
  exact PS.step e1 e2 e3 h2 h3 h4 h5
end
/-- Wait. -/
theorem wait_S {w0 w1 w : World} {pb n : Nat} {N : NS} {L : List Slot} {ds : WL} {A : List (Value × List Ev)} {C : List ((Nat × Nat) × Value)} (h : PS w0 w1 pb n N L ds A C) (hk : Keeps [] w1 w) (hL : L.length ≤ 1099511627776) (pv : Value) (ps : List Int) (hp : ∀ F, (∀ k ∈ F, w0.heap.size ≤ k ∧ k < w1.heap.size) → CellsIn w F pv (ps.map (.int .i64))) :
    Calls Try.prog 54 #[.pointer (some ⟨pb, 0, none⟩), pv] w fun e w' => ∃ v, e = .returned v ∧ PS w0 w' pb n N L (toldP N ds) ((v, pickE ps (evsP N L ds)) :: A) C := by
  obtain ⟨F, h1, h2, h3, h4, h5⟩ := h
  refine (wait_any pb n F N L ds pv ps w (h1.keeps hk (by simp)) hL (hp F (fun k hk => ⟨h2 k hk, h1.flt k hk⟩))).mono ?_
  rintro e w' ⟨v, rfl, hv, hr, hkk, ho⟩
  refine ⟨v, rfl, F, hr, h2, (h3.trans hk (by simp)).trans hkk (fun k hk' => .inr (h2 k hk')), fun r hr' => ?_, fun c hc => ⟨(h5 c hc).1, cell_keep hkk (h5 c hc).1 (cell_keep hk (by simp) (h5 c hc).2)⟩⟩
  rcases List.mem_cons.1 hr' with rfl | hr'
  · exact hv
  · exact ((h4 r hr').keeps hk (by simp)).keeps hkk (fun x hx => .inl hx)
/-- Watch. -/
theorem watch_S {w0 w : World} {pb n : Nat} {N : NS} {L : List Slot} {ds : WL} {A : List (Value × List Ev)} {C : List ((Nat × Nat) × Value)} (h : PS w0 w pb n N L ds A C) (id : Int) (rd wr ed : Bool) (h1 : id = -1 ∨ (stateN N id).2.1 = true) (hg : ∀ d ∈ L, 0 ≤ d.1 ∧ d.1 ≤ 1099511627776) (hL : L.length ≤ 1099511627776) (hd : ds.length < 4096) (hno : ∀ x ∈ ds, x.2.id ≠ id) :
    Calls Try.prog 50 #[.pointer (some ⟨pb, 0, none⟩), .int .i64 id, .bool rd, .bool wr, .bool ed] w fun e w' => e = .returned (.tuple #[.agg #[.int .i64 (freeAt L : Nat), .int .i64 (putG L)], .int .i64 0]) ∧ PS w0 w' pb n N (putL L id) (ds ++ [((((freeAt L : Nat) : Int), putG L), ⟨id, rd, wr, ed, 0, 0⟩)]) A C := by
  obtain ⟨F, g1, g2, g3, g4, g5⟩ := h
  refine (watch_any pb n F N L ds id rd wr ed w g1 h1 hg hL hd).mono ?_
  rintro e w' (⟨⟨x, hx, he⟩, -⟩ | ⟨-, rfl, ⟨F', e1, e2⟩, e3⟩)
  · exact absurd he (hno x hx)
  · exact ⟨rfl, PS.step e1 e2 e3 g2 g3 g4 g5⟩
/-- New. -/
theorem ponew_S (w0 w : World) (n : Nat) (Fn : List Nat) (N : NS) (h : NRep pc w n Fn N) (hF : ∀ k ∈ Fn, w0.heap.size ≤ k) (hk : Keeps [] w0 w) :
    Calls Try.prog 51 #[.pointer (some ⟨n, 0, none⟩)] w fun e w' => ∃ pb, e = .returned (.tuple #[.pointer (some ⟨pb, 0, none⟩), .int .i64 0]) ∧ PS w0 w' pb n N [] [] [] [] := by
  refine (ponew_ok n Fn N w h).mono ?_
  rintro e w' ⟨pb, s, m, rfl, hp, h1, h2, h3, h4⟩
  have hz := hk.size
  refine ⟨pb, rfl, _, ⟨s, m, Fn, [s], [], 0, hp, rfl, rfl⟩, fun k hx => ?_, hk.trans h4 (by simp), by simp, by simp⟩
  simp at hx
  rcases hx with rfl | rfl | hx | rfl
  · omega
  · omega
  · exact hF k hx
  · omega
end Go.Proofs.Ytkeffebcmajhmaa
