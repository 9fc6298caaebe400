/- PollQuiet: Drop and Change beside the poller's state; plain words. -/
import Derived.Test.YtkeffebcmajhmaaPoll17
import Derived.Test.YtkeffebcmajhmaaEdgeN
namespace Go.Proofs.Ytkeffebcmajhmaa
open Go.RowKit
set_option linter.unusedVariables false
set_option linter.unusedSimpArgs false
section
variable {w0 w w' W : World} {pb n : Nat} {N : NS} {L : List Slot} {ds : WL} {A : List (Value × List Ev)} {C : List ((Nat × Nat) × Value)} {B : Int}
theorem drop_S (h : PS w0 w pb n N L ds A C) (hk : Keeps [] w W) (pv : Value) (hs : List (Int × Int)) (hp : ∀ F, (∀ k ∈ F, k < w.heap.size) → HsIn W F pv hs) (hhs : hs.length ≤ 1099511627776) (hdl : ds.length ≤ 1099511627776) :
    Calls Try.prog 53 #[.pointer (some ⟨pb, 0, none⟩), pv] W fun e w' => e = .returned (.int .i64 (takeAll L hs).2) ∧ PS w0 w' pb n N (takeAll L hs).1 (outW ds hs) A C := by
  obtain ⟨F, h1, h2, h3, h4, h5⟩ := h
  refine (drop_any pb n F N L ds pv hs W (h1.keeps hk (by simp)) (hp F h1.flt) hhs hdl).mono ?_
  rintro e w' ⟨he, ⟨F', g1, g2⟩, g3⟩
  exact ⟨he, PS.step (w := W) g1 (fun k hk => .inl (g2 k hk)) g3 h2 (h3.trans hk (by simp)) (fun r hr => (h4 r hr).keeps hk (by simp)) (fun c hc => ⟨(h5 c hc).1, cell_keep hk (by simp) (h5 c hc).2⟩)⟩
theorem change_none (h : PS w0 w pb n N L ds A C) (i g : Int) (a b : Bool) (hf : findW ds (i, g) = none) :
    Calls Try.prog 52 #[.pointer (some ⟨pb, 0, none⟩), .agg #[.int .i64 i, .int .i64 g], .bool a, .bool b] w fun e w' => e = .returned (.int .i64 10) ∧ PS w0 w' pb n N L ds A C := by
  have h0 := h
  obtain ⟨F, h1, h2, h3, h4, h5⟩ := h
  refine (change_any pb n F N L ds i g a b w h1).mono ?_
  rintro e w' (⟨-, he, hk⟩ | ⟨⟨d, hd⟩, -⟩)
  · exact ⟨he, h0.next hk⟩
  · rw [hf] at hd
    cases hd
theorem watched_S (h : PS w0 w pb n N L ds A C) :
    Calls Try.prog 55 #[.pointer (some ⟨pb, 0, none⟩)] w fun e w' => e = .returned (.int .i64 ds.length) ∧ PS w0 w' pb n N L ds A C := by
  have h0 := h
  obtain ⟨F, h1, h2, h3, h4, h5⟩ := h
  exact (watched_any pb n F N L ds w h1).mono fun e w' ⟨he, hk⟩ => ⟨he, h0.next hk⟩
end
theorem rows_byteAt {w : World} {F : List Nat} {H : Nat} (x : Int) (hH : w.heap.size = H) (hF : ∀ k ∈ F, k < w.heap.size) :
    RowsIn ((w.alloc (.cells #[.int .u8 x] 5)).alloc (.cells #[.slice (some ⟨H, 0, none⟩) 1 1] 66)) F (.slice (some ⟨H + 1, 0, none⟩) 1 1) [(.slice (some ⟨H, 0, none⟩) 1 1, [x])] := by
  subst hH
  exact rows_byte x hF
def qN (i : List Int) (u r s : Int) : NS := ⟨1, [⟨false, true, false, 1, false, false, true, i, u, r, s, [], []⟩], [], false, 0, 1, 1⟩
theorem q1 : sendN (eN [] 0 []) 0 [[1]] = (qN [1] 0 1 0, 1, 0) := rfl
theorem q2 : openN (eN [] 0 []) 0 1 = (qN [] 1 0 1, 0) := rfl
theorem q3 : openN (qN [1] 0 1 0) 0 1 = (qN [1] 1 1 1, 0) := rfl
theorem q4 (N : NS) : evsP N [(1, false, 0)] [] = [] := rfl
theorem q5 : takeAll edL [(0, 1)] = ([(1, false, 0)], 1) := rfl
theorem q6 (d : Wd) : outW [((0, 1), d)] [(0, 1)] = [] := rfl
def qD (rd wr : Bool) : Wd := ⟨0, rd, wr, false, 0, 0⟩
def qE (r u : Bool) : Ev := ((0, 1), 0, r, u)
theorem qn0 : eN [] 0 [] = qN [] 0 0 0 := rfl
theorem q7 (N : NS) (rd wr : Bool) : toldP N [((0, 1), qD rd wr)] = [((0, 1), qD rd wr)] := by
  simp [toldP, toldD, qD]
theorem q8 (N : NS) (rd wr : Bool) : evsP N edL [((0, 1), qD rd wr)] = evOf N (0, 1) (qD rd wr) := by
  simp [evsP, edL, allFrom, evAt, findW]
theorem q9 (i : List Int) (u r s : Int) : readyN (qN i u r s) 0 = (decide (0 < i.length), decide (0 < u)) := by
  unfold readyN
  rw [if_neg (by omega)]
  have hc : cnAt (qN i u r s) ((0 : Nat) : Int) = _ := cnAt_some (d := ⟨false, true, false, 1, false, false, true, i, u, r, s, [], []⟩) rfl
  rw [show ((0 : Nat) : Int) = 0 from rfl] at hc
  rw [hc]
  simp
/-- something came, perhaps; the window is open, perhaps. -/
def qC (came : Bool) : NS := if came = true then qN [1] 0 1 0 else qN [] 0 0 0
def qO (came op : Bool) : NS := if op = true then (if came = true then qN [1] 1 1 1 else qN [] 1 0 1) else qC came
theorem q10 (rd wr came op : Bool) : pickE [] (evOf (qO came op) (0, 1) (qD rd wr)) = if ((rd && came) || (wr && op)) = true then [qE (rd && came) (wr && op)] else [] := by
  cases rd <;> cases wr <;> cases came <;> cases op <;> rfl
theorem q11 (came : Bool) : openN (qC came) 0 1 = (qO came true, 0) := by cases came <;> rfl
theorem q12 (came : Bool) : OkN (qC came) 2 := by
  have O1 := okN_connect (okN_new 1 (by omega) (by omega)) 1 (by omega)
  have O2 := okN_accept O1
  rw [e2] at O2
  have O3 := okN_send O2 0 [[1]]
  rw [q1] at O3
  cases came with
  | true => exact O3.mono (by omega)
  | false => exact O2.mono (by omega)
end Go.Proofs.Ytkeffebcmajhmaa
