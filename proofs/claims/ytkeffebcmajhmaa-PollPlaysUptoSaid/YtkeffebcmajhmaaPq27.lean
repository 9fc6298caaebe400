/- The poller for the laws: its state, its steps. -/
import Derived.Test.YtkeffebcmajhmaaPq26
import Derived.BigQuiet
namespace Go.Proofs.Ytkeffebcmajhmaa
open Go.RowKit
set_option linter.unusedVariables false
set_option linter.unusedSimpArgs false
/-- A poller newer than w0, and rows of Events lying aside. -/
def PS (w0 w : World) (pb n : Nat) (N : NS) (L : List Slot) (ds : WL) (A : List (Value × List Ev)) (C : List ((Nat × Nat) × Value)) : Prop :=
  ∃ F, PRep w pb n F N L ds ∧ (∀ k ∈ F, w0.heap.size ≤ k) ∧ Keeps [] w0 w ∧ (∀ r ∈ A, EvIn w F r.1 r.2) ∧ ∀ c ∈ C, c.1.1 ∉ F ∧ w.cell? ⟨c.1.1, c.1.2, none⟩ = some c.2
theorem EvIn.later {w : World} {F F' : List Nat} {v : Value} {l : List Ev} (h : EvIn w F v l) (hF : LaterF F w F') : EvIn w F' v l := by
  obtain ⟨A, c, hv, h1, h2, h3⟩ := h
  refine ⟨A, c, hv, h1, h2, fun hp => ?_⟩
  obtain ⟨b, o, hA, hb, hc⟩ := h3 hp
  refine ⟨b, o, hA, fun hx => ?_, hc⟩
  rcases hF b hx with e | e
  · exact hb e
  · obtain ⟨c1, -⟩ := hc 0 _ (List.getElem?_eq_getElem hp)
    have := World.block_lt_of_cell? w _ c1
    simp only at this
    omega
theorem EvIn.mono {w : World} {F G : List Nat} {v : Value} {l : List Ev} (h : EvIn w F v l) (hG : ∀ x ∈ G, x ∈ F) : EvIn w G v l := by
  obtain ⟨A, c, hv, h1, h2, h3⟩ := h
  refine ⟨A, c, hv, h1, h2, fun hp => ?_⟩
  obtain ⟨b, o, hA, hb, hc⟩ := h3 hp
  exact ⟨b, o, hA, fun hx => hb (hG b hx), hc⟩
section
variable {w0 w w' : World} {pb n : Nat} {N : NS} {L : List Slot} {ds : WL} {A : List (Value × List Ev)} {C : List ((Nat × Nat) × Value)}
theorem PS.next (h : PS w0 w pb n N L ds A C) (hk : Keeps [] w w') : PS w0 w' pb n N L ds A C := by
  obtain ⟨F, h1, h2, h3, h4, h5⟩ := h
  exact ⟨F, h1.keeps hk (by simp), h2, h3.trans hk (by simp), fun r hr => (h4 r hr).keeps hk (by simp), fun c hc => ⟨(h5 c hc).1, cell_keep hk (by simp) (h5 c hc).2⟩⟩
theorem PS.keepsW (h : PS w0 w pb n N L ds A C) : Keeps [] w0 w := by
  obtain ⟨F, h1, h2, h3, h4, h5⟩ := h
  exact h3
theorem PS.cell (h : PS w0 w pb n N L ds A C) : w.cell? ⟨pb, 0, none⟩ = some (.pointer (some ⟨n, 0, none⟩)) := by
  obtain ⟨F, ⟨s, m, Fn, Fs, es, clock, h, -⟩, -⟩ := h
  have := h.blk.cell 0
  simpa [pcells] using this
theorem PS.row (h : PS w0 w pb n N L ds A C) {r : Value × List Ev} (hr : r ∈ A) : EvIn w [] r.1 r.2 := by
  obtain ⟨F, h1, h2, h3, h4, h5⟩ := h
  obtain ⟨B, c, hv, g1, g2, g3⟩ := h4 r hr
  refine ⟨B, c, hv, g1, g2, fun hp => ?_⟩
  obtain ⟨b, o, hA, hb, hc⟩ := g3 hp
  exact ⟨b, o, hA, by simp, hc⟩
/-- a step of the poller. -/
theorem PS.step {F F' : List Nat} {N' : NS} {L' : List Slot} {ds' : WL} (h1 : PRep w' pb n F' N' L' ds') (hl : LaterF F w F') (hk : Keeps F w w') (h2 : ∀ k ∈ F, w0.heap.size ≤ k) (h3 : Keeps [] w0 w) (h4 : ∀ r ∈ A, EvIn w F r.1 r.2) (h5 : ∀ c ∈ C, c.1.1 ∉ F ∧ w.cell? ⟨c.1.1, c.1.2, none⟩ = some c.2) : PS w0 w' pb n N' L' ds' A C := by
  have hz := h3.size
  refine ⟨F', h1, fun k hk' => ?_, h3.trans hk (fun k hk' => .inr (h2 k hk')), fun r hr => ?_, fun c hc => ⟨fun hx => ?_, cell_keep hk (h5 c hc).1 (h5 c hc).2⟩⟩
  · rcases hl k hk' with e | e
    · exact h2 k e
    · omega
  · have ha : EvIn w (F ++ F') r.1 r.2 := (h4 r hr).later (fun k hk => by
      rcases List.mem_append.1 hk with e | e
      · exact .inl e
      · exact hl k e)
    exact (ha.keeps hk (fun x hx => .inl (List.mem_append_left _ hx))).mono (fun x hx => List.mem_append_right _ hx)
  · rcases hl _ hx with e | e
    · exact (h5 c hc).1 e
    · have := World.block_lt_of_cell? w _ (h5 c hc).2
      simp only at this
      omega
/-- one more cell lies aside. -/
theorem PS.aside (h : PS w0 w pb n N L ds A C) (hk : Keeps [] w w') {g i : Nat} {v : Value} (hp : w.heap.size ≤ g) (hc : w'.cell? ⟨g, i, none⟩ = some v) : PS w0 w' pb n N L ds A (((g, i), v) :: C) := by
  obtain ⟨F, h1, h2, h3, h4, h5⟩ := h.next hk
  obtain ⟨F0, g1, g2, g3, g4, g5⟩ := h
  refine ⟨F0, g1.keeps hk (by simp), g2, g3.trans hk (by simp), fun r hr => (g4 r hr).keeps hk (by simp), fun c hc' => ?_⟩
  rcases List.mem_cons.1 hc' with rfl | hc'
  · exact ⟨fun hx => by have := g1.flt _ hx; simp only at this; omega, hc⟩
  · exact ⟨(g5 c hc').1, cell_keep hk (by simp) (g5 c hc').2⟩
theorem PS.at_ (h : PS w0 w pb n N L ds A C) {c : (Nat × Nat) × Value} (hc : c ∈ C) : w.cell? ⟨c.1.1, c.1.2, none⟩ = some c.2 := by
  obtain ⟨F, h1, h2, h3, h4, h5⟩ := h
  exact (h5 c hc).2
/-- the net's steps. -/
theorem PS.net (h : PS w0 w pb n N L ds A C) : ∃ Fn, NRep pc w n Fn N ∧ (∀ k ∈ Fn, k < w.heap.size) ∧ ∀ N' w', NDone pc w n Fn N' w' → PS w0 w' pb n N' L ds A C := by
  obtain ⟨F, h1, h2, h3, h4, h5⟩ := h
  obtain ⟨Fn, g1, g2, g3⟩ := h1.net
  refine ⟨Fn, g1, fun k hk => h1.flt k (g2 k hk), fun N' w' hd => ?_⟩
  obtain ⟨F', e1, e2, e3⟩ := g3 N' w' hd
  exact PS.step e1 e2 e3 h2 h3 h4 h5
end
/-- Wait. -/
theorem wait_S {w0 w1 w : World} {pb n : Nat} {N : NS} {L : List Slot} {ds : WL} {A : List (Value × List Ev)} {C : List ((Nat × Nat) × Value)} (h : PS w0 w1 pb n N L ds A C) (hk : Keeps [] w1 w) (hL : L.length ≤ 1099511627776) (pv : Value) (ps : List Int) (hp : ∀ F, (∀ k ∈ F, w0.heap.size ≤ k ∧ k < w1.heap.size) → CellsIn w F pv (ps.map (.int .i64))) :
    Calls Try.prog 54 #[.pointer (some ⟨pb, 0, none⟩), pv] w fun e w' => ∃ v, e = .returned v ∧ PS w0 w' pb n N L (toldP N ds) ((v, pickE ps (evsP N L ds)) :: A) C := by
  obtain ⟨F, h1, h2, h3, h4, h5⟩ := h
  refine (wait_any pb n F N L ds pv ps w (h1.keeps hk (by simp)) hL (hp F (fun k hk => ⟨h2 k hk, h1.flt k hk⟩))).mono ?_
  rintro e w' ⟨v, rfl, hv, hr, hkk, ho⟩
  refine ⟨v, rfl, F, hr, h2, (h3.trans hk (by simp)).trans hkk (fun k hk' => .inr (h2 k hk')), fun r hr' => ?_, fun c hc => ⟨(h5 c hc).1, cell_keep hkk (h5 c hc).1 (cell_keep hk (by simp) (h5 c hc).2)⟩⟩
  rcases List.mem_cons.1 hr' with rfl | hr'
  · exact hv
  · exact ((h4 r hr').keeps hk (by simp)).keeps hkk (fun x hx => .inl hx)
/-- Watch. -/
theorem watch_S {w0 w : World} {pb n : Nat} {N : NS} {L : List Slot} {ds : WL} {A : List (Value × List Ev)} {C : List ((Nat × Nat) × Value)} (h : PS w0 w pb n N L ds A C) (id : Int) (rd wr ed : Bool) (h1 : id = -1 ∨ (stateN N id).2.1 = true) (hg : ∀ d ∈ L, 0 ≤ d.1 ∧ d.1 ≤ 1099511627776) (hL : L.length ≤ 1099511627776) (hd : ds.length < 4096) (hno : ∀ x ∈ ds, x.2.id ≠ id) :
    Calls Try.prog 50 #[.pointer (some ⟨pb, 0, none⟩), .int .i64 id, .bool rd, .bool wr, .bool ed] w fun e w' => e = .returned (.tuple #[.agg #[.int .i64 (freeAt L : Nat), .int .i64 (putG L)], .int .i64 0]) ∧ PS w0 w' pb n N (putL L id) (ds ++ [((((freeAt L : Nat) : Int), putG L), ⟨id, rd, wr, ed, 0, 0⟩)]) A C := by
  obtain ⟨F, g1, g2, g3, g4, g5⟩ := h
  refine (watch_any pb n F N L ds id rd wr ed w g1 h1 hg hL hd).mono ?_
  rintro e w' (⟨⟨x, hx, he⟩, -⟩ | ⟨-, rfl, ⟨F', e1, e2⟩, e3⟩)
  · exact absurd he (hno x hx)
  · exact ⟨rfl, PS.step e1 e2 e3 g2 g3 g4 g5⟩
/-- New. -/
theorem ponew_S (w0 w : World) (n : Nat) (Fn : List Nat) (N : NS) (h : NRep pc w n Fn N) (hF : ∀ k ∈ Fn, w0.heap.size ≤ k) (hk : Keeps [] w0 w) :
    Calls Try.prog 51 #[.pointer (some ⟨n, 0, none⟩)] w fun e w' => ∃ pb, e = .returned (.tuple #[.pointer (some ⟨pb, 0, none⟩), .int .i64 0]) ∧ PS w0 w' pb n N [] [] [] [] := by
  refine (ponew_ok n Fn N w h).mono ?_
  rintro e w' ⟨pb, s, m, rfl, hp, h1, h2, h3, h4⟩
  have hz := hk.size
  refine ⟨pb, rfl, _, ⟨s, m, Fn, [s], [], 0, hp, rfl, rfl⟩, fun k hx => ?_, hk.trans h4 (by simp), by simp, by simp⟩
  simp at hx
  rcases hx with rfl | rfl | hx | rfl
  · omega
  · omega
  · exact hF k hx
  · omega
end Go.Proofs.Ytkeffebcmajhmaa
/- The laws' known by contract. -/
namespace Go.Proofs.Ytkeffebcmajhmaa
open Go.RowKit
set_option linter.unusedVariables false
set_option linter.unusedSimpArgs false
def pkD : Wd := ⟨-1, true, false, false, 0, 0⟩
def pkE : Ev := ((0, 1), -1, true, false)
theorem pk1 : putL [] (-1) = [(1, true, -1)] ∧ freeAt [] = 0 ∧ putG [] = 1 := ⟨rfl, rfl, rfl⟩
theorem pk2 : (connectN (newN 2) 1).2 = (0, 0) := rfl
theorem pk3 : evsP (connectN (newN 2) 1).1 [(1, true, -1)] [((0, 1), pkD)] = [pkE] := rfl
theorem pk4 : toldP (connectN (newN 2) 1).1 [((0, 1), pkD)] = [((0, 1), pkD)] := rfl
theorem pk5 : pickE [] [pkE] = [pkE] := rfl
theorem pk6 : pickE [5, -1] [pkE] = [pkE] := rfl
set_option maxRecDepth 100000 in
set_option maxHeartbeats 4000000 in
theorem pknown_any (w : World) : Calls Try.prog 56 #[] w fun e w' => e = .returned (.bool true) ∧ Keeps [] w w' := by
  go_enter Try.func56, Try.ntmps56
  go_wp2_with fail
  refine (nnew_ok 2 w (by omega) (by omega)).mono ?_
  rintro e w1 ⟨rfl, hn1, hk1⟩
  go_wp2_with fail
  refine (ponew_S w w1 w.heap.size _ _ hn1 (by simp) hk1).mono ?_
  rintro e w2 ⟨pb, rfl, hs2⟩
  have c2 := hs2.cell
  clear hn1 hk1
  go_wp2_with fail
  refine (watch_S hs2 (-1) true false false (.inl rfl) (by simp) (by simp) (by simp) (by simp)).mono ?_
  rw [pk1.1, pk1.2.1, pk1.2.2]
  rintro e w3 ⟨rfl, hs3⟩
  replace hs3 : PS w w3 pb w.heap.size (newN 2) [(1, true, -1)] [((0, 1), pkD)] [] [] := hs3
  have c3 := hs3.cell
  have hs3a := hs3.aside ((Keeps.refl [] w3).alloc (.cells #[.int .i64 0, .int .i64 1] 30)) (g := w3.heap.size) (i := 0) (v := .int .i64 0) (Nat.le_refl _) (by simp)
  have hs3' : PS w (w3.alloc (.cells #[.int .i64 0, .int .i64 1] 30)) pb w.heap.size (newN 2) [(1, true, -1)] [((0, 1), pkD)] [] [((w3.heap.size, 1), .int .i64 1), ((w3.heap.size, 0), .int .i64 0)] := by
    obtain ⟨F, h1, h2, h3, h4, h5⟩ := hs3a
    refine ⟨F, h1, h2, h3, h4, fun c hc => ?_⟩
    have h6 := h5 ((w3.heap.size, 0), .int .i64 0) (by simp)
    simp only [List.mem_cons, List.not_mem_nil, or_false] at hc
    rcases hc with rfl | rfl
    · exact ⟨h6.1, by simp⟩
    · exact h6
  have c3' := hs3'.cell
  clear hs2 c2
  obtain ⟨Fn, hn, hfn, hst⟩ := hs3'.net
  have HST := hid hst
  clear hst
  go_wp2_with fail
  refine (connect_any _ Fn _ 0 1 _ hn (okN_new 2 (by omega) (by omega)) (by omega)).mono ?_
  rw [show (connectN (newN 2) 1).2.1 = 0 from rfl, show (connectN (newN 2) 1).2.2 = 0 from rfl]
  rintro e w4 ⟨rfl, hd4⟩
  have hs4 := HST.out _ _ hd4
  have c4 := hs4.cell
  clear hd4 hn hs3 hs3a hs3' c3 c3'
  go_wp2_with fail
  refine (wait_S hs4 (Keeps.refl [] _) (by simp) _ [] (fun F hF => CellsIn.nil _ _)).mono ?_
  rintro e w5 ⟨v5, rfl, hs5⟩
  go_wp2_with fail
  refine (wait_S hs5 ((Keeps.refl [] w5).alloc _) (by simp) _ [5, -1] (fun F hF => ?_)).mono ?_
  · have h := CellsIn.newM w5 F [.int .i64 5, .int .i64 (-1)] 3 (0, 0) (fun k hk => (hF k hk).2) (by simp)
    simpa using h
  rintro e w6 ⟨v6, rfl, hs6⟩
  rw [pk4] at hs5 hs6
  rw [pk3, pk5] at hs5 hs6
  rw [pk4] at hs6
  rw [pk6] at hs6
  have d0 := hs6.at_ (c := ((w3.heap.size, 0), .int .i64 0)) (by simp)
  have d1 := hs6.at_ (c := ((w3.heap.size, 1), .int .i64 1)) (by simp)
  simp only at d0 d1
  have r5 := hs6.row (r := (v5, [pkE])) (by simp)
  have r6 := hs6.row (r := (v6, [pkE])) (by simp)
  have kw := hs6.keepsW
  have R5 := hid r5
  have R6 := hid r6
  have KW := hid kw
  clear hs5 hs6 hs4 c4 r5 r6 kw HST hfn
  have hw : Row (w6.alloc (.cells #[.int .i64 0, .int .i64 1, .int .i64 (-1), .bool true, .bool false] 95)) 95 5 (.slice (some ⟨w6.heap.size, 0, none⟩) 1 1) 1 (evsV [pkE]) := ⟨rfl, .inr ⟨_, 0, 1, _, rfl, heap_alloc_new _ _, by omega, by simp [maxLen], by simp, rfl⟩⟩
  have EW := hid (Row.evIn (F := []) (l := [pkE]) hw (by simp))
  clear hw
  have kal := (Keeps.refl [] w6).alloc (.cells #[.int .i64 0, .int .i64 1, .int .i64 (-1), .bool true, .bool false] 95)
  have KAL := hid kal
  clear kal
  go_wp2_with fail
  refine (events_any _ _ [pkE] [pkE] _ (R5.out.keeps KAL.out (by simp)) EW.out).mono ?_
  rintro e w7 ⟨rfl, hk7⟩
  rw [show decide ([pkE] = [pkE]) = true from by simp]
  go_wp2_with fail
  refine (events_any _ _ [pkE] [pkE] _ ((R6.out.keeps KAL.out (by simp)).keeps hk7 (by simp)) (EW.out.keeps hk7 (by simp))).mono ?_
  rintro e w8 ⟨rfl, hk8⟩
  rw [show decide ([pkE] = [pkE]) = true from by simp]
  go_wp2_with fail
  go_ret
  exact ⟨rfl, ((KW.out.trans KAL.out (by simp)).trans hk7 (by simp)).trans hk8 (by simp)⟩
end Go.Proofs.Ytkeffebcmajhmaa
/- The poller's laws: one connection that is open. -/
namespace Go.Proofs.Ytkeffebcmajhmaa
open Go.RowKit
set_option linter.unusedVariables false
/-- the net: one connection, taken and open; what lies in it, how often it was readable anew, what was told. -/
def eN (inn : List Int) (r : Int) (t : List Int) : NS := ⟨1, [⟨false, true, false, 1, false, false, true, inn, 0, r, 0, [], t⟩], [], false, 0, 1, 1⟩
theorem e1 : (connectN (newN 1) 1).2 = (0, 0) := rfl
theorem e2 : acceptN (connectN (newN 1) 1).1 = (eN [] 0 [], 0, 1, 0) := rfl
end Go.Proofs.Ytkeffebcmajhmaa
/- The poller's net by contract, the poller's state beside it. -/
namespace Go.Proofs.Ytkeffebcmajhmaa
open Go.RowKit
set_option linter.unusedVariables false
section
variable {w0 w w' W : World} {pb n : Nat} {N : NS} {L : List Slot} {ds : WL} {A : List (Value × List Ev)} {C : List ((Nat × Nat) × Value)} {B : Int}
theorem connect_P (h : PS w0 w pb n N L ds A C) (hN : OkN N B) (hB : B ≤ 1099511627776) (peer : Int) :
    Calls Try.prog 37 #[.pointer (some ⟨n, 0, none⟩), .int .i64 peer] w fun e w' => e = .returned (.tuple #[.int .i64 (connectN N peer).2.1, .int .i64 (connectN N peer).2.2]) ∧ PS w0 w' pb n (connectN N peer).1 L ds A C := by
  obtain ⟨F, h1, -, h2⟩ := h.net
  exact (connect_any n F N B peer w h1 hN hB).mono fun e w' ⟨he, hd⟩ => ⟨he, h2 _ _ hd⟩
theorem accept_P (h : PS w0 w pb n N L ds A C) (hN : OkN N B) (hB : B ≤ 1099511627776) :
    Calls Try.prog 36 #[.pointer (some ⟨n, 0, none⟩)] w fun e w' => e = .returned (.tuple #[.int .i64 (acceptN N).2.1, .int .i64 (acceptN N).2.2.1, .int .i64 (acceptN N).2.2.2]) ∧ PS w0 w' pb n (acceptN N).1 L ds A C := by
  obtain ⟨F, h1, -, h2⟩ := h.net
  exact (accept_any n F N B w h1 hN hB).mono fun e w' ⟨he, hd⟩ => ⟨he, h2 _ _ hd⟩
theorem open_P (h : PS w0 w pb n N L ds A C) (hN : OkN N B) (hB : B ≤ 1099511627776) (k b : Int) :
    Calls Try.prog 40 #[.pointer (some ⟨n, 0, none⟩), .int .i64 k, .int .i64 b] w fun e w' => e = .returned (.int .i64 (openN N k b).2) ∧ PS w0 w' pb n (openN N k b).1 L ds A C := by
  obtain ⟨F, h1, -, h2⟩ := h.net
  exact (open_any n F N B k b w h1 hN hB).mono fun e w' ⟨he, hd⟩ => ⟨he, h2 _ _ hd⟩
/-- a row of one byte, just laid. -/
theorem rows_byte {F : List Nat} (x : Int) (hF : ∀ k ∈ F, k < w.heap.size) :
    RowsIn ((w.alloc (.cells #[.int .u8 x] 5)).alloc (.cells #[.slice (some ⟨w.heap.size, 0, none⟩) 1 1] 66)) F (.slice (some ⟨w.heap.size + 1, 0, none⟩) 1 1) [(.slice (some ⟨w.heap.size, 0, none⟩) 1 1, [x])] := by
  refine ⟨?_, fun r hr => ?_⟩
  · have h := CellsIn.newM (w.alloc (.cells #[.int .u8 x] 5)) F [.slice (some ⟨w.heap.size, 0, none⟩) 1 1] 66 (0, 0) (fun k hk => by have := hF k hk; simp; omega) (by simp)
    simpa using h
  · simp at hr
    subst hr
    have h := CellsIn.newM w F (bytesV [x]) 5 (0, 0) hF (by simp [bytesV])
    simpa [bytesV] using h.alloc (.cells #[.slice (some ⟨w.heap.size, 0, none⟩) 1 1] 66)
theorem send_P (h : PS w0 w pb n N L ds A C) (hkW : Keeps [] w W) (hN : OkN N B) (hB : B ≤ 1099511627776) (k : Int) (pv : Value) (rows : List (Value × List Int)) (hr : ∀ F, (∀ k ∈ F, k < w.heap.size) → RowsIn W F pv rows) :
    Calls Try.prog 39 #[.pointer (some ⟨n, 0, none⟩), .int .i64 k, pv] W fun e w' => e = .returned (.tuple #[.int .i64 (sendN N k (rows.map (·.2))).2.1, .int .i64 (sendN N k (rows.map (·.2))).2.2]) ∧ PS w0 w' pb n (sendN N k (rows.map (·.2))).1 L ds A C := by
  obtain ⟨F, h1, h2, h3, h4, h5⟩ := h
  obtain ⟨Fn, g1, g2, g3⟩ := (h1.keeps hkW (by simp)).net
  refine (send_any n Fn N B k pv rows W g1 hN hB (hr Fn (fun k hk => h1.flt k (g2 k hk)))).mono ?_
  rintro e w' ⟨he, hd⟩
  obtain ⟨F', e1, e2, e3⟩ := g3 _ _ hd
  exact ⟨he, PS.step e1 e2 e3 h2 (h3.trans hkW (by simp)) (fun r hr => (h4 r hr).keeps hkW (by simp)) (fun c hc => ⟨(h5 c hc).1, cell_keep hkW (by simp) (h5 c hc).2⟩)⟩
theorem read_P (h : PS w0 w pb n N L ds A C) (hN : OkN N B) (hB : B ≤ 1099511627776) (k most : Int) (hm : most ≤ 9223372036854775807) :
    Calls Try.prog 42 #[.pointer (some ⟨n, 0, none⟩), .int .i64 k, .int .i64 most] w fun e w' => ∃ v, e = .returned (.tuple #[v, .int .i64 (readN N k most).2.2]) ∧ PS w0 w' pb n (readN N k most).1 L ds A C := by
  obtain ⟨F, h1, -, h2⟩ := h.net
  refine (read_any n F N B k most w h1 hN hB hm).mono ?_
  rintro e w' ⟨v, F', rfl, g1, g2, g3, -⟩
  exact ⟨v, rfl, h2 _ _ ⟨⟨F', g1, g2⟩, g3⟩⟩
end
end Go.Proofs.Ytkeffebcmajhmaa
/- The poller: Change and Watched by contract. -/
namespace Go.Proofs.Ytkeffebcmajhmaa
open Go.RowKit
set_option linter.unusedVariables false
set_option linter.unusedSimpArgs false
abbrev keyX (x : PX) : Int × Int := (x.1.s, x.1.g)
abbrev dsX (es : List PX) : WL := es.map (fun x => ((x.1.s, x.1.g), x.2))
theorem find_out {es : List PX} {i g : Int} (h : findW (dsX es) (i, g) = none) : ∀ x ∈ es, ¬ (x.1.s = i ∧ x.1.g = g) := by
  intro x hx hc
  unfold findW at h
  cases hf : (dsX es).find? (fun y => y.1 == (i, g)) with
  | none =>
    have := List.find?_eq_none.1 hf ((x.1.s, x.1.g), x.2) (List.mem_map.2 ⟨x, hx, rfl⟩)
    simp [hc.1, hc.2] at this
  | some y => rw [hf] at h; cases h
theorem find_in {es : List PX} {i g : Int} {d : Wd} (h : findW (dsX es) (i, g) = some d) : ∃ x ∈ es, x.1.s = i ∧ x.1.g = g ∧ x.2 = d := by
  unfold findW at h
  cases hf : (dsX es).find? (fun y => y.1 == (i, g)) with
  | none => rw [hf] at h; cases h
  | some y =>
    rw [hf] at h
    have h1 := List.mem_of_find?_eq_some hf
    have h2 := List.find?_some hf
    obtain ⟨z, hz, rfl⟩ := List.mem_map.1 h1
    simp at h2 h
    exact ⟨z, hz, h2.1, h2.2, h⟩
/-- what is asked for has changed. -/
def chgD (a b : Bool) (d : Wd) : Wd := { d with rd := a, wr := b, tr := 0, tm := 0 }
def chgW (ds : WL) (h : Int × Int) (a b : Bool) : WL := ds.map fun x => (x.1, if x.1 = h then chgD a b x.2 else x.2)
def ChangePost (w : World) (pb n : Nat) (F : List Nat) (N : NS) (L : List Slot) (ds : WL) (h : Int × Int) (a b : Bool) (e : Ending) (w' : World) : Prop :=
  (findW ds h = none ∧ e = .returned (.int .i64 10) ∧ Keeps [] w w') ∨ (∃ d, findW ds h = some d) ∧ e = .returned (.int .i64 0) ∧ PRep w' pb n F N L (chgW ds h a b) ∧ Keeps F w w'
set_option maxRecDepth 100000 in
set_option maxHeartbeats 4000000 in
theorem change_any (pb n : Nat) (F : List Nat) (N : NS) (L : List Slot) (ds : WL) (i g : Int) (a b : Bool) (w : World) (h : PRep w pb n F N L ds) :
    Calls Try.prog 52 #[.pointer (some ⟨pb, 0, none⟩), .agg #[.int .i64 i, .int .i64 g], .bool a, .bool b] w (ChangePost w pb n F N L ds (i, g) a b) := by
  obtain ⟨s, m, Fn, Fs, es, clock, h, hds, rfl⟩ := h
  have H := hid h
  have p2 := h.blk.cell 2
  simp [pcells] at p2
  have g2 := fun o => alloc_cell p2 o
  have HDS := hid hds
  cases hf : findW ds (i, g) with
  | none =>
    have hlook : lookE (es.map (·.1)) i g = .pointer none := lookE_none (find_out (by have h9 := hf; rw [hds] at h9; exact h9))
    have hlk : ∀ (j : Nat), (Instr.lookup 91 (.map (some m)) (.agg #[.int .i64 i, .int .i64 g]) false).run Try.prog ((w.alloc (.cells #[.int .i64 i, .int .i64 g] 30)).drewN j) = .ok (.pointer none) ((w.alloc (.cells #[.int .i64 i, .int .i64 g] 30)).drewN j) := fun j => by
      have := run_lookH (h.map.keeps (((Keeps.refl [] w).alloc (.cells #[.int .i64 i, .int .i64 g] 30)).drewN j) (by simp)) i g
      rw [hlook] at this
      exact this
    have HF := hid hf
    clear h hds hlook hf
    go_enter Try.func52, Try.ntmps52
    go_wp2_with fail
    go_quiet (fail)
    go_wp2_with fail
    go_ret
    exact .inl ⟨HF.out, rfl, by (repeat (first | exact Keeps.refl _ _ | apply Keeps.drewN | apply Keeps.drew | apply Keeps.alloc))⟩
  | some d =>
    obtain ⟨x, hx, hx1, hx2, hx3⟩ := find_in (es := es) (by have h9 := hf; rw [hds] at h9; exact h9)
    have hlook : lookE (es.map (·.1)) i g = .pointer (some ⟨x.1.p, 0, none⟩) := by
      have := lookE_in h.kn hx
      rw [hx1, hx2] at this
      exact this
    have hlk : ∀ (j : Nat), (Instr.lookup 91 (.map (some m)) (.agg #[.int .i64 i, .int .i64 g]) false).run Try.prog ((w.alloc (.cells #[.int .i64 i, .int .i64 g] 30)).drewN j) = .ok (.pointer (some ⟨x.1.p, 0, none⟩)) ((w.alloc (.cells #[.int .i64 i, .int .i64 g] 30)).drewN j) := fun j => by
      have := run_lookH (h.map.keeps (((Keeps.refl [] w).alloc (.cells #[.int .i64 i, .int .i64 g] 30)).drewN j) (by simp)) i g
      rw [hlook] at this
      exact this
    have hb := (h.at_ x hx).alloc (.cells #[.int .i64 i, .int .i64 g] 30)
    have hff := hb.frozen
    have HX := hid (⟨hx, hx1, hx2, hx3⟩ : x ∈ es ∧ x.1.s = i ∧ x.1.g = g ∧ x.2 = d)
    have HF := hid hf
    have HB := hid hb
    have f1 := hff 1
    have f2 := hff 2
    have f4 := hff 4
    have f5 := hff 5
    have c1 := hb.cell 1
    have c2 := hb.cell 2
    have c4 := hb.cell 4
    have c5 := hb.cell 5
    simp [wcells] at c1 c2 c4 c5
    clear h hds hlook hf hx hx1 hx2 hx3 hff hb
    go_enter Try.func52, Try.ntmps52
    go_wp2_with fail
    go_quiet (fail)
    go_wp2_with fail
    go_ret
    have hp := H.out.apart.2.2.2.2 x HX.out.1
    refine .inr ⟨⟨d, HF.out⟩, rfl, ⟨s, m, Fn, Fs, es.map (fun y => (y.1, if y.1.p = x.1.p then chgD a b y.2 else y.2)), clock, ?_, ?_, ?_⟩, ?_⟩
    · refine H.out.upd (K := [x.1.p]) (fun y => if y.1.p = x.1.p then chgD a b y.2 else y.2) (fun y hy => by split <;> rfl) ?_ (fun k hk => ⟨x, HX.out.1, by simpa using hk⟩) (fun y hy => ?_)
      · (repeat (first | exact Keeps.refl _ _ | exact .inl (by simp) | apply Keeps.drewN | apply Keeps.drew | apply Keeps.alloc | apply Keeps.setCell))
      · by_cases hxy : y.1.p = x.1.p
        · have he : y = x := nodup_inj (f := fun z : PX => z.1.p) H.out.pn hy HX.out.1 hxy
          subst he
          rw [if_pos rfl]
          exact pblk_eq (((((HB.out.drewN _).set_ 1 (.bool a)).set_ 2 (.bool b)).set_ 4 (.int .i64 0)).set_ 5 (.int .i64 0)) (by simp [wcells, chgD])
        · rw [if_neg hxy]
          have h8 := (H.out.at_ y hy).alloc (.cells #[.int .i64 i, .int .i64 g] 30)
          exact h8.keeps (F := [x.1.p]) (by (repeat (first | exact Keeps.refl _ _ | exact .inl (by simp) | apply Keeps.drewN | apply Keeps.drew | apply Keeps.setCell))) (by simpa using hxy)
    · rw [HDS.out, chgW, List.map_map, List.map_map]
      refine List.map_congr_left (fun y hy => ?_)
      simp only [Function.comp_def]
      by_cases hxy : y.1.p = x.1.p
      · have he : y = x := nodup_inj (f := fun z : PX => z.1.p) H.out.pn hy HX.out.1 hxy
        subst he
        simp [HX.out.2.1, HX.out.2.2.1]
      · have hne : ¬ (y.1.s, y.1.g) = (i, g) := fun he => hxy (by
          have h9 : y = x := nodup_inj (f := fun z : PX => z.1.s) H.out.kn hy HX.out.1 (by
            have := HX.out.2.1
            injection he with he1 he2
            exact he1.trans this.symm)
          rw [h9])
        rw [if_neg hxy, if_neg hne]
    · simp [List.map_map, Function.comp_def]
    · have hmem : x.1.p ∈ pb :: m :: (Fn ++ (Fs ++ es.map (·.1.p))) := by
        simp only [List.mem_cons, List.mem_append, List.mem_map]
        exact .inr (.inr (.inr (.inr ⟨x, HX.out.1, rfl⟩)))
      (repeat (first | exact Keeps.refl _ _ | exact .inl hmem | apply Keeps.drewN | apply Keeps.drew | apply Keeps.alloc | apply Keeps.setCell))
theorem watched_any (pb n : Nat) (F : List Nat) (N : NS) (L : List Slot) (ds : WL) (w : World) (h : PRep w pb n F N L ds) :
    Calls Try.prog 55 #[.pointer (some ⟨pb, 0, none⟩)] w fun e w' => e = .returned (.int .i64 ds.length) ∧ Keeps [] w w' := by
  obtain ⟨s, m, Fn, Fs, es, clock, h, hds, rfl⟩ := h
  have p2 := h.blk.cell 2
  simp [pcells] at p2
  have hlen : ∀ ty, (Builtin.len_ #[91] ty #[.map (some m)]).run Try.prog w = .ok (.int .i64 ds.length) w := fun ty => by
    have := run_lenH h.map ty
    rw [hds]
    simpa using this
  clear h hds
  go_enter Try.func55, Try.ntmps55
  go_wp2_with fail
  go_ret
  exact ⟨rfl, Keeps.refl _ _⟩
end Go.Proofs.Ytkeffebcmajhmaa
