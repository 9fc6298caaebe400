/- The poller's net by contract, the poller's state beside it. -/
import Derived.Test.YtkeffebcmajhmaaPoll14
namespace Go.Proofs.Ytkeffebcmajhmaa
open Go.RowKit
set_option linter.unusedVariables false
section
variable {w0 w w' W : World} {pb n : Nat} {N : NS} {L : List Slot} {ds : WL} {A : List (Value × List Ev)} {C : List ((Nat × Nat) × Value)} {B : Int}
theorem connect_P (h : PS w0 w pb n N L ds A C) (hN : OkN N B) (hB : B ≤ 1099511627776) (peer : Int) :
    Calls Try.prog 37 #[.pointer (some ⟨n, 0, none⟩), .int .i64 peer] w fun e w' => e = .returned (.tuple #[.int .i64 (connectN N peer).2.1, .int .i64 (connectN N peer).2.2]) ∧ PS w0 w' pb n (connectN N peer).1 L ds A C := by
  obtain ⟨F, h1, -, h2⟩ := h.net
  exact (connect_any n F N B peer w h1 hN hB).mono fun e w' ⟨he, hd⟩ => ⟨he, h2 _ _ hd⟩
theorem accept_P (h : PS w0 w pb n N L ds A C) (hN : OkN N B) (hB : B ≤ 1099511627776) :
    Calls Try.prog 36 #[.pointer (some ⟨n, 0, none⟩)] w fun e w' => e = .returned (.tuple #[.int .i64 (acceptN N).2.1, .int .i64 (acceptN N).2.2.1, .int .i64 (acceptN N).2.2.2]) ∧ PS w0 w' pb n (acceptN N).1 L ds A C := by
  obtain ⟨F, h1, -, h2⟩ := h.net
  exact (accept_any n F N B w h1 hN hB).mono fun e w' ⟨he, hd⟩ => ⟨he, h2 _ _ hd⟩
theorem open_P (h : PS w0 w pb n N L ds A C) (hN : OkN N B) (hB : B ≤ 1099511627776) (k b : Int) :
    Calls Try.prog 40 #[.pointer (some ⟨n, 0, none⟩), .int .i64 k, .int .i64 b] w fun e w' => e = .returned (.int .i64 (openN N k b).2) ∧ PS w0 w' pb n (openN N k b).1 L ds A C := by
  obtain ⟨F, h1, -, h2⟩ := h.net
  exact (open_any n F N B k b w h1 hN hB).mono fun e w' ⟨he, hd⟩ => ⟨he, h2 _ _ hd⟩
/-- a row of one byte, just laid. -/
theorem rows_byte {F : List Nat} (x : Int) (hF : ∀ k ∈ F, k < w.heap.size) :
    RowsIn ((w.alloc (.cells #[.int .u8 x] 5)).alloc (.cells #[.slice (some ⟨w.heap.size, 0, none⟩) 1 1] 66)) F (.slice (some ⟨w.heap.size + 1, 0, none⟩) 1 1) [(.slice (some ⟨w.heap.size, 0, none⟩) 1 1, [x])] := by
  refine ⟨?_, fun r hr => ?_⟩
  · have h := CellsIn.newM (w.alloc (.cells #[.int .u8 x] 5)) F [.slice (some ⟨w.heap.size, 0, none⟩) 1 1] 66 (0, 0) (fun k hk => by have := hF k hk; simp; omega) (by simp)
    simpa using h
  · simp at hr
    subst hr
    have h := CellsIn.newM w F (bytesV [x]) 5 (0, 0) hF (by simp [bytesV])
    simpa [bytesV] using h.alloc (.cells #[.slice (some ⟨w.heap.size, 0, none⟩) 1 1] 66)
theorem send_P (h : PS w0 w pb n N L ds A C) (hkW : Keeps [] w W) (hN : OkN N B) (hB : B ≤ 1099511627776) (k : Int) (pv : Value) (rows : List (Value × List Int)) (hr : ∀ F, (∀ k ∈ F, k < w.heap.size) → RowsIn W F pv rows) :
    Calls Try.prog 39 #[.pointer (some ⟨n, 0, none⟩), .int .i64 k, pv] W fun e w' => e = .returned (.tuple #[.int .i64 (sendN N k (rows.map (·.2))).2.1, .int .i64 (sendN N k (rows.map (·.2))).2.2]) ∧ PS w0 w' pb n (sendN N k (rows.map (·.2))).1 L ds A C := by
  obtain ⟨F, h1, h2, h3, h4, h5⟩ := h
  obtain ⟨Fn, g1, g2, g3⟩ := (h1.keeps hkW (by simp)).net
  refine (send_any n Fn N B k pv rows W g1 hN hB (hr Fn (fun k hk => h1.flt k (g2 k hk)))).mono ?_
  rintro e w' ⟨he, hd⟩
  obtain ⟨F', e1, e2, e3⟩ := g3 _ _ hd
  exact ⟨he, PS.step e1 e2 e3 h2 (h3.trans hkW (by simp)) (fun r hr => (h4 r hr).keeps hkW (by simp)) (fun c hc => ⟨(h5 c hc).1, cell_keep hkW (by simp) (h5 c hc).2⟩)⟩
theorem read_P (h : PS w0 w pb n N L ds A C) (hN : OkN N B) (hB : B ≤ 1099511627776) (k most : Int) (hm : most ≤ 9223372036854775807) :
    Calls Try.prog 42 #[.pointer (some ⟨n, 0, none⟩), .int .i64 k, .int .i64 most] w fun e w' => ∃ v, e = .returned (.tuple #[v, .int .i64 (readN N k most).2.2]) ∧ PS w0 w' pb n (readN N k most).1 L ds A C := by
  obtain ⟨F, h1, -, h2⟩ := h.net
  refine (read_any n F N B k most w h1 hN hB hm).mono ?_
  rintro e w' ⟨v, F', rfl, g1, g2, g3, -⟩
  exact ⟨v, rfl, h2 _ _ ⟨⟨F', g1, g2⟩, g3⟩⟩
end
end Go.Proofs.Ytkeffebcmajhmaa
