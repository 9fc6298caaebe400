/- PollQuiet: Drop and Change beside the poller's state; plain words. -/
import Derived.Test.YtkeffebcmajhmaaPq28
import Derived.Test.YtkeffebcmajhmaaPq30
namespace Go.Proofs.Ytkeffebcmajhmaa
open Go.RowKit
set_option linter.unusedVariables false
set_option linter.unusedSimpArgs false
section
variable {w0 w w' W : World} {pb n : Nat} {N : NS} {L : List Slot} {ds : WL} {A : List (Value × List Ev)} {C : List ((Nat × Nat) × Value)} {B : Int}
theorem drop_S (h : PS w0 w pb n N L ds A C) (hk : Keeps [] w W) (pv : Value) (hs : List (Int × Int)) (hp : ∀ F, (∀ k ∈ F, k < w.heap.size) → HsIn W F pv hs) (hhs : hs.length ≤ 1099511627776) (hdl : ds.length ≤ 1099511627776) :
    Calls Try.prog 53 #[.pointer (some ⟨pb, 0, none⟩), pv] W fun e w' => e = .returned (.int .i64 (takeAll L hs).2) ∧ PS w0 w' pb n N (takeAll L hs).1 (outW ds hs) A C := by
  obtain ⟨F, h1, h2, h3, h4, h5⟩ := h
  refine (drop_any pb n F N L ds pv hs W (h1.keeps hk (by simp)) (hp F h1.flt) hhs hdl).mono ?_
  rintro e w' ⟨he, ⟨F', g1, g2⟩, g3⟩
  exact ⟨he, PS.step (w := W) g1 (fun k hk => .inl (g2 k hk)) g3 h2 (h3.trans hk (by simp)) (fun r hr => (h4 r hr).keeps hk (by simp)) (fun c hc => ⟨(h5 c hc).1, cell_keep hk (by simp) (h5 c hc).2⟩)⟩
theorem change_none (h : PS w0 w pb n N L ds A C) (i g : Int) (a b : Bool) (hf : findW ds (i, g) = none) :
    Calls Try.prog 52 #[.pointer (some ⟨pb, 0, none⟩), .agg #[.int .i64 i, .int .i64 g], .bool a, .bool b] w fun e w' => e = .returned (.int .i64 10) ∧ PS w0 w' pb n N L ds A C := by
  have h0 := h
  obtain ⟨F, h1, h2, h3, h4, h5⟩ := h
  refine (change_any pb n F N L ds i g a b w h1).mono ?_
  rintro e w' (⟨-, he, hk⟩ | ⟨⟨d, hd⟩, -⟩)
  · exact ⟨he, h0.next hk⟩
  · rw [hf] at hd
    cases hd
theorem watched_S (h : PS w0 w pb n N L ds A C) :
    Calls Try.prog 55 #[.pointer (some ⟨pb, 0, none⟩)] w fun e w' => e = .returned (.int .i64 ds.length) ∧ PS w0 w' pb n N L ds A C := by
  have h0 := h
  obtain ⟨F, h1, h2, h3, h4, h5⟩ := h
  exact (watched_any pb n F N L ds w h1).mono fun e w' ⟨he, hk⟩ => ⟨he, h0.next hk⟩
end
theorem rows_byteAt {w : World} {F : List Nat} {H : Nat} (x : Int) (hH : w.heap.size = H) (hF : ∀ k ∈ F, k < w.heap.size) :
    RowsIn ((w.alloc (.cells #[.int .u8 x] 5)).alloc (.cells #[.slice (some ⟨H, 0, none⟩) 1 1] 66)) F (.slice (some ⟨H + 1, 0, none⟩) 1 1) [(.slice (some ⟨H, 0, none⟩) 1 1, [x])] := by
  subst hH
  exact rows_byte x hF
def qN (i : List Int) (u r s : Int) : NS := ⟨1, [⟨false, true, false, 1, false, false, true, i, u, r, s, [], []⟩], [], false, 0, 1, 1⟩
theorem q1 : sendN (eN [] 0 []) 0 [[1]] = (qN [1] 0 1 0, 1, 0) := rfl
theorem q2 : openN (eN [] 0 []) 0 1 = (qN [] 1 0 1, 0) := rfl
theorem q3 : openN (qN [1] 0 1 0) 0 1 = (qN [1] 1 1 1, 0) := rfl
theorem q4 (N : NS) : evsP N [(1, false, 0)] [] = [] := rfl
theorem q5 : takeAll edL [(0, 1)] = ([(1, false, 0)], 1) := rfl
theorem q6 (d : Wd) : outW [((0, 1), d)] [(0, 1)] = [] := rfl
def qD (rd wr : Bool) : Wd := ⟨0, rd, wr, false, 0, 0⟩
def qE (r u : Bool) : Ev := ((0, 1), 0, r, u)
theorem qn0 : eN [] 0 [] = qN [] 0 0 0 := rfl
theorem q7 (N : NS) (rd wr : Bool) : toldP N [((0, 1), qD rd wr)] = [((0, 1), qD rd wr)] := by
  simp [toldP, toldD, qD]
theorem q8 (N : NS) (rd wr : Bool) : evsP N edL [((0, 1), qD rd wr)] = evOf N (0, 1) (qD rd wr) := by
  simp [evsP, edL, allFrom, evAt, findW]
theorem q9 (i : List Int) (u r s : Int) : readyN (qN i u r s) 0 = (decide (0 < i.length), decide (0 < u)) := by
  unfold readyN
  rw [if_neg (by omega)]
  have hc : cnAt (qN i u r s) ((0 : Nat) : Int) = _ := cnAt_some (d := ⟨false, true, false, 1, false, false, true, i, u, r, s, [], []⟩) rfl
  rw [show ((0 : Nat) : Int) = 0 from rfl] at hc
  rw [hc]
  simp
/-- something came, perhaps; the window is open, perhaps. -/
def qC (came : Bool) : NS := if came = true then qN [1] 0 1 0 else qN [] 0 0 0
def qO (came op : Bool) : NS := if op = true then (if came = true then qN [1] 1 1 1 else qN [] 1 0 1) else qC came
theorem q10 (rd wr came op : Bool) : pickE [] (evOf (qO came op) (0, 1) (qD rd wr)) = if ((rd && came) || (wr && op)) = true then [qE (rd && came) (wr && op)] else [] := by
  cases rd <;> cases wr <;> cases came <;> cases op <;> rfl
theorem q11 (came : Bool) : openN (qC came) 0 1 = (qO came true, 0) := by cases came <;> rfl
theorem q12 (came : Bool) : OkN (qC came) 2 := by
  have O1 := okN_connect (okN_new 1 (by omega) (by omega)) 1 (by omega)
  have O2 := okN_accept O1
  rw [e2] at O2
  have O3 := okN_send O2 0 [[1]]
  rw [q1] at O3
  cases came with
  | true => exact O3.mono (by omega)
  | false => exact O2.mono (by omega)
end Go.Proofs.Ytkeffebcmajhmaa
/- PollPlays: both pollers side by side. -/
namespace Go.Proofs.Ytkeffebcmajhmaa
open Go.RowKit
set_option linter.unusedVariables false
set_option linter.unusedSimpArgs false
abbrev AL := List (Nat × TypeId × Array Value)
/-- the program's poller pb, the reference's xb, the law's pair q, the Handles given; A: blocks that lie aside. -/
structure PB (w W : World) (pb n xb x q : Nat) (F G : List Nat) (N : NS) (L : List Slot) (ds : WL) (M : NS) (K : List Slot) (c : Int) (D : Nat → Wd) (gv : Value) (hs : List (Int × Int)) (A : AL) : Prop where
  prog : PRep W pb n F N L ds
  ref : RPRep W xb x G M K c D
  fl : ∀ k ∈ F, w.heap.size ≤ k
  gl : ∀ k ∈ G, w.heap.size ≤ k
  fg : ∀ k ∈ F, k ∉ G
  kp : Keeps [] w W
  blk : Blk W q 124 #[.pointer (some ⟨pb, 0, none⟩), .pointer (some ⟨xb, 0, none⟩), gv]
  row : Row W 30 2 gv hs.length (handlesV hs)
  ql : w.heap.size ≤ q
  qf : q ∉ F
  qg : q ∉ G
  ol : ∀ j, gv.ownBlock = some j → w.heap.size ≤ j ∧ j ∉ F ∧ j ∉ G
  aside : ∀ a ∈ A, Blk W a.1 a.2.1 a.2.2 ∧ a.1 ∉ F ∧ a.1 ∉ G
theorem later_not {F F' : List Nat} {W : World} {k : Nat} (h : LaterF F W F') (hk : k ∉ F) (hl : k < W.heap.size) : k ∉ F' := fun hx => by
  rcases h k hx with e | e
  · exact hk e
  · omega
section
variable {w W W' : World} {pb n xb x q : Nat} {F G : List Nat} {N : NS} {L : List Slot} {ds : WL} {M : NS} {K : List Slot} {c : Int} {D : Nat → Wd} {gv : Value} {hs : List (Int × Int)} {A : AL}
theorem PB.next (h : PB w W pb n xb x q F G N L ds M K c D gv hs A) (hk : Keeps [] W W') : PB w W' pb n xb x q F G N L ds M K c D gv hs A :=
  ⟨h.prog.keeps hk (by simp), h.ref.keeps hk (by simp), h.fl, h.gl, h.fg, h.kp.trans hk (by simp), h.blk.keeps hk (by simp), h.row.keeps hk (by simp), h.ql, h.qf, h.qg, h.ol, fun a ha => ⟨(h.aside a ha).1.keeps hk (by simp), (h.aside a ha).2⟩⟩
theorem PB.pstep {F1 : List Nat} {N1 : NS} {L1 : List Slot} {ds1 : WL} (h : PB w W pb n xb x q F G N L ds M K c D gv hs A) (hr : PRep W' pb n F1 N1 L1 ds1) (hl : LaterF F W F1) (hk : Keeps F W W') : PB w W' pb n xb x q F1 G N1 L1 ds1 M K c D gv hs A := by
  have hz := h.kp.size
  refine ⟨hr, h.ref.keeps hk (fun k hk hx => h.fg k hk hx), fun k hx => ?_, h.gl, fun k hx hg => ?_, h.kp.trans hk (fun k hx => .inr (h.fl k hx)), h.blk.keeps hk h.qf, h.row.keeps hk (fun j hj => (h.ol j hj).2.1), h.ql, later_not hl h.qf h.blk.lt, h.qg, fun j hj => ?_, fun a ha => ?_⟩
  · rcases hl k hx with e | e
    · exact h.fl k e
    · omega
  · exact later_not hl (fun e => h.fg k e hg) (h.ref.flt k hg) hx
  · obtain ⟨o1, o2, o3⟩ := h.ol j hj
    exact ⟨o1, later_not hl o2 (h.row.lt j hj), o3⟩
  · obtain ⟨o1, o2, o3⟩ := h.aside a ha
    exact ⟨o1.keeps hk o2, later_not hl o2 o1.lt, o3⟩
theorem PB.rstep {G1 : List Nat} {M1 : NS} {K1 : List Slot} {c1 : Int} {D1 : Nat → Wd} (h : PB w W pb n xb x q F G N L ds M K c D gv hs A) (hr : RPRep W' xb x G1 M1 K1 c1 D1) (hl : LaterF G W G1) (hk : Keeps G W W') : PB w W' pb n xb x q F G1 N L ds M1 K1 c1 D1 gv hs A := by
  have hz := h.kp.size
  refine ⟨h.prog.keeps hk (fun k hk hx => h.fg k hx hk), hr, h.fl, fun k hx => ?_, fun k hx hg => ?_, h.kp.trans hk (fun k hx => .inr (h.gl k hx)), h.blk.keeps hk h.qg, h.row.keeps hk (fun j hj => (h.ol j hj).2.2), h.ql, h.qf, later_not hl h.qg h.blk.lt, fun j hj => ?_, fun a ha => ?_⟩
  · rcases hl k hx with e | e
    · exact h.gl k e
    · omega
  · exact later_not hl (h.fg k hx) (h.prog.flt k hx) hg
  · obtain ⟨o1, o2, o3⟩ := h.ol j hj
    exact ⟨o1, o2, later_not hl o3 (h.row.lt j hj)⟩
  · obtain ⟨o1, o2, o3⟩ := h.aside a ha
    exact ⟨o1.keeps hk o3, o2, later_not hl o3 o1.lt⟩
theorem PB.pnet (h : PB w W pb n xb x q F G N L ds M K c D gv hs A) : ∃ Fn, NRep pc W n Fn N ∧ (∀ k ∈ Fn, k ∈ F) ∧ ∀ N1 W', NDone pc W n Fn N1 W' → ∃ F1, PB w W' pb n xb x q F1 G N1 L ds M K c D gv hs A := by
  obtain ⟨Fn, h1, h2, h3⟩ := h.prog.net
  refine ⟨Fn, h1, h2, fun N1 W' hd => ?_⟩
  obtain ⟨F1, g1, g2, g3⟩ := h3 N1 W' hd
  exact ⟨F1, h.pstep g1 g2 g3⟩
theorem PB.rnet (h : PB w W pb n xb x q F G N L ds M K c D gv hs A) : ∃ Fn, NRep rc W x Fn M ∧ (∀ k ∈ Fn, k ∈ G) ∧ ∀ N1 W', NDone rc W x Fn N1 W' → ∃ G1, PB w W' pb n xb x q F G1 N L ds N1 K c D gv hs A := by
  obtain ⟨Fn, h1, h2, h3⟩ := h.ref.net
  refine ⟨Fn, h1, h2, fun N1 W' hd => ?_⟩
  obtain ⟨G1, g1, g2, g3⟩ := h3 N1 W' hd
  exact ⟨G1, h.rstep g1 g2 g3⟩
/-- a new block lies aside. -/
theorem PB.put (h : PB w W pb n xb x q F G N L ds M K c D gv hs A) (a : Nat × TypeId × Array Value) (hk : Keeps [] W W') (hb : Blk W' a.1 a.2.1 a.2.2) (hn : W.heap.size ≤ a.1) : PB w W' pb n xb x q F G N L ds M K c D gv hs (a :: A) := by
  have h' := h.next hk
  refine ⟨h'.prog, h'.ref, h.fl, h.gl, h.fg, h'.kp, h'.blk, h'.row, h.ql, h.qf, h.qg, h.ol, fun b hb' => ?_⟩
  rcases List.mem_cons.1 hb' with rfl | hb'
  · exact ⟨hb, fun hx => by have := h.prog.flt _ hx; omega, fun hx => by have := h.ref.flt _ hx; omega⟩
  · exact h'.aside b hb'
theorem PB.away {A' : AL} (h : PB w W pb n xb x q F G N L ds M K c D gv hs A) (hA : ∀ a ∈ A', a ∈ A) : PB w W pb n xb x q F G N L ds M K c D gv hs A' :=
  ⟨h.prog, h.ref, h.fl, h.gl, h.fg, h.kp, h.blk, h.row, h.ql, h.qf, h.qg, h.ol, fun a ha => h.aside a (hA a ha)⟩
/-- the cells that the law reads. -/
theorem PB.cells (h : PB w W pb n xb x q F G N L ds M K c D gv hs A) : W.cell? ⟨q, 0, none⟩ = some (.pointer (some ⟨pb, 0, none⟩)) ∧ W.cell? ⟨q, 1, none⟩ = some (.pointer (some ⟨xb, 0, none⟩)) ∧ W.cell? ⟨q, 2, none⟩ = some gv ∧ W.cell? ⟨pb, 0, none⟩ = some (.pointer (some ⟨n, 0, none⟩)) ∧ W.cell? ⟨xb, 0, none⟩ = some (.pointer (some ⟨x, 0, none⟩)) := by
  have h0 := h.blk.cell 0
  have h1 := h.blk.cell 1
  have h2 := h.blk.cell 2
  simp at h0 h1 h2
  obtain ⟨s, m, Fn, Fs, es, clock, hp, -, -⟩ := h.prog
  have h3 := hp.blk.cell 0
  simp [pcells] at h3
  exact ⟨h0, h1, h2, h3, h.ref.cells.1⟩
end
theorem cellsIn_blk {W : World} {b : Nat} {t : TypeId} {v : Value} {F : List Nat} (h : Blk W b t #[v]) (hb : b ∉ F) : CellsIn W F (.slice (some ⟨b, 0, none⟩) 1 1) [v] := by
  refine ⟨_, _, rfl, Nat.le_refl _, by unfold maxLen; simp, fun _ => ⟨_, _, rfl, hb, fun j u hu => ?_⟩⟩
  have h0 := h.cell 0
  simp at h0
  cases j with
  | zero => simp at hu; subst hu; simpa using h0
  | succ j => simp at hu
/-- what wire makes of the net. -/
def wireN (kind : Int) (N : NS) (c k : Int) : NS :=
  if kind = 5 then (connectN N (bits .and .i64 k 3)).1 else if kind = 6 then (acceptN N).1 else if kind = 7 then (sendN N c [[7]]).1 else if kind = 8 then (openN N c k).1
  else if kind = 9 then (resetN N c).1 else if kind = 10 then (halfN N c).1 else if kind = 11 then (closeN N [c]).1 else if kind = 12 then (readN N c 1).1
  else if kind = 13 then (writeN N c [7]).1 else if kind = 14 then (shutN N c).1 else if kind = 15 then stopN N else N
abbrev actA (kind cc kk : Int) (r u e : Bool) (pv : Value) : Array Value := #[.int .i64 kind, .int .i64 cc, .int .i64 kk, .bool r, .bool u, .bool e, pv]
abbrev actT : TypeId := 118
end Go.Proofs.Ytkeffebcmajhmaa
/- PollPlays: asks, kind 2. -/
namespace Go.Proofs.Ytkeffebcmajhmaa
open Go.RowKit
set_option linter.unusedVariables false
set_option linter.unusedSimpArgs false
theorem and_maskP (x : Int) (m : Nat) (h : m < 9223372036854775808) : ∃ k : Nat, bits .and .i64 x (m : Int) = k ∧ k ≤ m := by
  have e : (BitVec.ofInt 64 (m : Int)).toNat = m := by
    rw [BitVec.ofInt_natCast, BitVec.toNat_ofNat]; exact Nat.mod_eq_of_lt (by omega)
  refine ⟨(BitVec.ofInt 64 x).toNat &&& m, ?_, Nat.and_le_right⟩
  have hx : (BitVec.ofInt 64 x).toNat &&& m ≤ m := Nat.and_le_right
  show IntKind.i64.wrap ((BitVec.ofInt 64 x &&& BitVec.ofInt 64 (m : Int)).toNat : Int) = _
  rw [BitVec.toNat_and, e, IntKind.wrap_i64]
  omega
set_option maxRecDepth 100000 in
set_option maxHeartbeats 16000000 in
theorem asks_2 (w W : World) (pb n xb x q : Nat) (F G : List Nat) (N : NS) (L : List Slot) (ds : WL) (D : Nat → Wd) (gv : Value) (hs : List (Int × Int)) (cc kk : Int) (r u b : Bool) (pv : Value) (h : PB w W pb n xb x q F G N L ds N L ds.length D gv hs []) (hlr : LR L ds D) (hh : 1 ≤ hs.length) :
    Calls Try.prog 67 #[.pointer (some ⟨q, 0, none⟩), .agg (actA 2 cc kk r u b pv)] W fun e w' => e = .returned (.bool true) ∧ ∃ F1 G1 ds' D', LR L ds' D' ∧ ds'.length = ds.length ∧ PB w w' pb n xb x q F1 G1 N L ds' N L ds.length D' gv hs [] := by
  have h1 := h.put (W.heap.size, actT, actA 2 cc kk r u b pv) ((Keeps.refl [] W).alloc (.cells (actA 2 cc kk r u b pv) actT)) (Blk.new W _ _) (Nat.le_refl _)
  have H1 := hid h1
  have HLR := hid hlr
  clear h h1 hlr
  obtain ⟨m, hm⟩ : ∃ m, hs.length = m := ⟨_, rfl⟩
  have hm1 : 1 ≤ m := by omega
  obtain ⟨q1, hq1, -⟩ := and_maskP kk 65535 (by omega)
  obtain ⟨r1, hr1⟩ : ∃ r, q1 % m = r := ⟨_, rfl⟩
  have hr1m : r1 < m := by rw [← hr1]; exact Nat.mod_lt _ (by omega)
  have hmod1 : (bits BinOp.and IntKind.i64 kk 65535).tmod (m : Int) = (r1 : Int) := by
    have h1 : bits BinOp.and IntKind.i64 kk 65535 = (q1 : Int) := hq1
    rw [h1, ← hr1]
    exact (Int.ofNat_tmod q1 m).symm
  obtain ⟨GA, gcap, hgv, -⟩ := H1.out.row.form
  subst hgv
  obtain ⟨gb, go, hga, -, hgc⟩ := (H1.out.row.hsIn (F := []) (by simp)).at_ (by omega)
  subst hga
  obtain ⟨⟨i1, g1⟩, hh1⟩ : ∃ h, hs[r1]? = some h := ⟨hs[r1]'(by omega), List.getElem?_eq_getElem (by omega)⟩
  obtain ⟨d0, d1⟩ := hgc r1 _ hh1
  simp only at d0 d1
  have hr1i : (r1 : Int) < m := by omega
  have hmi : (0 : Int) < m := by omega
  have hmz : ¬ m = 0 := by omega
  obtain ⟨e1, e2, e3, e4, e5⟩ := H1.out.cells
  rw [hm] at e3
  obtain ⟨W1, hW1⟩ : ∃ x, W.alloc (.cells (actA 2 cc kk r u b pv) actT) = x := ⟨_, rfl⟩
  obtain ⟨POST, hPOST⟩ : ∃ P, (fun (e : Ending) (w' : World) => e = .returned (.bool true) ∧ ∃ F1 G1 ds' D', LR L ds' D' ∧ ds'.length = ds.length ∧ PB w w' pb n xb x q F1 G1 N L ds' N L ds.length D' (.slice (some ⟨gb, go, none⟩) hs.length gcap) hs []) = P := ⟨_, rfl⟩
  rw [hPOST]
  have HP := hid hPOST
  clear hPOST hgc hq1 hr1
  go_enter Try.func67, Try.ntmps67
  go_wp2_with fail
  rw [hW1] at H1 e1 e2 e3 e4 e5 d0 d1
  have x2 := (H1.out.aside (W.heap.size, actT, actA 2 cc kk r u b pv) (by simp)).1.cell 2
  simp at x2
  clear hW1
  obtain ⟨S, hSe⟩ : ∃ S : World → Prop, ∀ w', S w' ↔ (w'.cell? ⟨q, 2, none⟩ = some (.slice (some ⟨gb, go, none⟩) m gcap) ∧ w'.cell? ⟨W.heap.size, 2, none⟩ = some (.int .i64 kk) ∧ w'.cell? ⟨gb, go + r1 * 2, none⟩ = some (.int .i64 i1) ∧ w'.cell? ⟨gb, go + r1 * 2 + 1, none⟩ = some (.int .i64 g1)) := ⟨_, fun _ => Iff.rfl⟩
  have hSk : ∀ w', Keeps [] W1 w' → S w' := fun w' hk => (hSe _).2 ⟨cell_keep hk (by simp) e3, cell_keep hk (by simp) x2, cell_keep hk (by simp) d0, cell_keep hk (by simp) d1⟩
  refine wp_region_held_drew (S := S) (by kernel_rfl) (hSk _ (Keeps.refl [] W1).drew) (fun hHeld => ?_)
  refine wpAnyH_take (i := 0) (v := ?_) rfl (by kernel_rfl) (by kernel_rfl) (by kernel_rfl) (fun _ _ _ h => h) ?_ (by assumption) ?_
  rotate_left 1
  · first | (apply Or.inl; constructor; rfl; intro Wx hSw; obtain ⟨s1_, s2_, s3_, s4_⟩ := (hSe _).1 hSw; go_simp; try (with_reducible rfl)) | (apply Or.inr; constructor; rfl; rfl)
  try simp only [Act.put, List.getElem_toArray, List.getElem_cons_succ, List.getElem_cons_zero, List.setIfInBounds_toArray, List.set_cons_zero, List.set_cons_succ]
  refine wpAnyH_take (i := 1) (v := ?_) rfl (by kernel_rfl) (by kernel_rfl) (by kernel_rfl) (fun _ _ _ h => h) ?_ (by assumption) ?_
  rotate_left 1
  · first | (apply Or.inl; constructor; rfl; intro Wx hSw; obtain ⟨s1_, s2_, s3_, s4_⟩ := (hSe _).1 hSw; go_simp; try (with_reducible rfl)) | (apply Or.inr; constructor; rfl; rfl)
  try simp only [Act.put, List.getElem_toArray, List.getElem_cons_succ, List.getElem_cons_zero, List.setIfInBounds_toArray, List.set_cons_zero, List.set_cons_succ]
  refine wpAnyH_take (i := 2) (v := ?_) rfl (by kernel_rfl) (by kernel_rfl) (by kernel_rfl) (fun _ _ _ h => h) ?_ (by assumption) ?_
  rotate_left 1
  · first | (apply Or.inl; constructor; rfl; intro Wx hSw; obtain ⟨s1_, s2_, s3_, s4_⟩ := (hSe _).1 hSw; go_simp; try (with_reducible rfl)) | (apply Or.inr; constructor; rfl; rfl)
  try simp only [Act.put, List.getElem_toArray, List.getElem_cons_succ, List.getElem_cons_zero, List.setIfInBounds_toArray, List.set_cons_zero, List.set_cons_succ]
  refine wpAnyH_take (i := 3) (v := ?_) rfl (by kernel_rfl) (by kernel_rfl) (by kernel_rfl) (fun _ _ _ h => h) ?_ (by assumption) ?_
  rotate_left 1
  · first | (apply Or.inl; constructor; rfl; intro Wx hSw; obtain ⟨s1_, s2_, s3_, s4_⟩ := (hSe _).1 hSw; go_simp; try (with_reducible rfl)) | (apply Or.inr; constructor; rfl; rfl)
  try simp only [Act.put, List.getElem_toArray, List.getElem_cons_succ, List.getElem_cons_zero, List.setIfInBounds_toArray, List.set_cons_zero, List.set_cons_succ]
  refine wpAnyH_take (i := 4) (v := ?_) rfl (by kernel_rfl) (by kernel_rfl) (by kernel_rfl) (fun _ _ _ h => h) ?_ (by assumption) ?_
  rotate_left 1
  · first | (apply Or.inl; constructor; rfl; intro Wx hSw; obtain ⟨s1_, s2_, s3_, s4_⟩ := (hSe _).1 hSw; go_simp; try (with_reducible rfl)) | (apply Or.inr; constructor; rfl; rfl)
  try simp only [Act.put, List.getElem_toArray, List.getElem_cons_succ, List.getElem_cons_zero, List.setIfInBounds_toArray, List.set_cons_zero, List.set_cons_succ]
  refine wpAnyH_take (i := 5) (v := ?_) rfl (by kernel_rfl) (by kernel_rfl) (by kernel_rfl) (fun _ _ _ h => h) ?_ (by assumption) ?_
  rotate_left 1
  · first | (apply Or.inl; constructor; rfl; intro Wx hSw; obtain ⟨s1_, s2_, s3_, s4_⟩ := (hSe _).1 hSw; go_simp; try (with_reducible rfl)) | (apply Or.inr; constructor; rfl; rfl)
  try simp only [Act.put, List.getElem_toArray, List.getElem_cons_succ, List.getElem_cons_zero, List.setIfInBounds_toArray, List.set_cons_zero, List.set_cons_succ]
  refine wpAnyH_take (i := 6) (v := ?_) rfl (by kernel_rfl) (by kernel_rfl) (by kernel_rfl) (fun _ _ _ h => h) ?_ (by assumption) ?_
  rotate_left 1
  · first | (apply Or.inl; constructor; rfl; intro Wx hSw; obtain ⟨s1_, s2_, s3_, s4_⟩ := (hSe _).1 hSw; go_simp; try (with_reducible rfl)) | (apply Or.inr; constructor; rfl; rfl)
  try simp only [Act.put, List.getElem_toArray, List.getElem_cons_succ, List.getElem_cons_zero, List.setIfInBounds_toArray, List.set_cons_zero, List.set_cons_succ]
  refine wpAnyH_take (i := 7) (v := ?_) rfl (by kernel_rfl) (by kernel_rfl) (by kernel_rfl) (fun _ _ _ h => h) ?_ (by assumption) ?_
  rotate_left 1
  · first | (apply Or.inl; constructor; rfl; intro Wx hSw; obtain ⟨s1_, s2_, s3_, s4_⟩ := (hSe _).1 hSw; go_simp; try (with_reducible rfl)) | (apply Or.inr; constructor; rfl; rfl)
  try simp only [Act.put, List.getElem_toArray, List.getElem_cons_succ, List.getElem_cons_zero, List.setIfInBounds_toArray, List.set_cons_zero, List.set_cons_succ]
  refine wpAnyH_take (i := 8) (v := ?_) rfl (by kernel_rfl) (by kernel_rfl) (by kernel_rfl) (fun _ _ _ h => h) ?_ (by assumption) ?_
  rotate_left 1
  · first | (apply Or.inl; constructor; rfl; intro Wx hSw; obtain ⟨s1_, s2_, s3_, s4_⟩ := (hSe _).1 hSw; go_simp; try (with_reducible rfl)) | (apply Or.inr; constructor; rfl; rfl)
  try simp only [Act.put, List.getElem_toArray, List.getElem_cons_succ, List.getElem_cons_zero, List.setIfInBounds_toArray, List.set_cons_zero, List.set_cons_succ]
  refine wpAnyH_take (i := 9) (v := ?_) rfl (by kernel_rfl) (by kernel_rfl) (by kernel_rfl) (fun _ _ _ h => h) ?_ (by assumption) ?_
  rotate_left 1
  · first | (apply Or.inl; constructor; rfl; intro Wx hSw; obtain ⟨s1_, s2_, s3_, s4_⟩ := (hSe _).1 hSw; go_simp; try (with_reducible rfl)) | (apply Or.inr; constructor; rfl; rfl)
  try simp only [Act.put, List.getElem_toArray, List.getElem_cons_succ, List.getElem_cons_zero, List.setIfInBounds_toArray, List.set_cons_zero, List.set_cons_succ]
  refine wpAnyH_take (i := 10) (v := ?_) rfl (by kernel_rfl) (by kernel_rfl) (by kernel_rfl) (fun _ _ _ h => h) ?_ (by assumption) ?_
  rotate_left 1
  · first | (apply Or.inl; constructor; rfl; intro Wx hSw; obtain ⟨s1_, s2_, s3_, s4_⟩ := (hSe _).1 hSw; go_simp; try (with_reducible rfl)) | (apply Or.inr; constructor; rfl; rfl)
  try simp only [Act.put, List.getElem_toArray, List.getElem_cons_succ, List.getElem_cons_zero, List.setIfInBounds_toArray, List.set_cons_zero, List.set_cons_succ]
  refine wpAnyH_take (i := 11) (v := ?_) rfl (by kernel_rfl) (by kernel_rfl) (by kernel_rfl) (fun _ _ _ h => h) ?_ (by assumption) ?_
  rotate_left 1
  · first | (apply Or.inl; constructor; rfl; intro Wx hSw; obtain ⟨s1_, s2_, s3_, s4_⟩ := (hSe _).1 hSw; go_simp; try (with_reducible rfl)) | (apply Or.inr; constructor; rfl; rfl)
  try simp only [Act.put, List.getElem_toArray, List.getElem_cons_succ, List.getElem_cons_zero, List.setIfInBounds_toArray, List.set_cons_zero, List.set_cons_succ]
  refine wpAnyH_take (i := 12) (v := ?_) rfl (by kernel_rfl) (by kernel_rfl) (by kernel_rfl) (fun _ _ _ h => h) ?_ (by assumption) ?_
  rotate_left 1
  · first | (apply Or.inl; constructor; rfl; intro Wx hSw; obtain ⟨s1_, s2_, s3_, s4_⟩ := (hSe _).1 hSw; go_simp; try (with_reducible rfl)) | (apply Or.inr; constructor; rfl; rfl)
  try simp only [Act.put, List.getElem_toArray, List.getElem_cons_succ, List.getElem_cons_zero, List.setIfInBounds_toArray, List.set_cons_zero, List.set_cons_succ]
  refine wpAnyH_take (i := 13) (v := ?_) rfl (by kernel_rfl) (by kernel_rfl) (by kernel_rfl) (fun _ _ _ h => h) ?_ (by assumption) ?_
  rotate_left 1
  · first | (apply Or.inl; constructor; rfl; intro Wx hSw; obtain ⟨s1_, s2_, s3_, s4_⟩ := (hSe _).1 hSw; go_simp; try (with_reducible rfl)) | (apply Or.inr; constructor; rfl; rfl)
  try simp only [Act.put, List.getElem_toArray, List.getElem_cons_succ, List.getElem_cons_zero, List.setIfInBounds_toArray, List.set_cons_zero, List.set_cons_succ]
  refine wpAnyH_take (i := 14) (v := ?_) rfl (by kernel_rfl) (by kernel_rfl) (by kernel_rfl) (fun _ _ _ h => h) ?_ (by assumption) ?_
  rotate_left 1
  · first | (apply Or.inl; constructor; rfl; intro Wx hSw; obtain ⟨s1_, s2_, s3_, s4_⟩ := (hSe _).1 hSw; go_simp; try (with_reducible rfl)) | (apply Or.inr; constructor; rfl; rfl)
  try simp only [Act.put, List.getElem_toArray, List.getElem_cons_succ, List.getElem_cons_zero, List.setIfInBounds_toArray, List.set_cons_zero, List.set_cons_succ]
  refine wpAnyH_ready (rs := [15]) (by kernel_rfl) (by simp) ?_
  refine AllReadyH.cons rfl (fun K1 hK => ?_) AllReadyH.nil
  go_simp
  refine hK.out _ _ (hSk _ ((Keeps.refl [] W1).drew.alloc _)) (fun hHeld => ?_)
  clear hK K1
  try simp only [Act.put, List.getElem_toArray, List.getElem_cons_succ, List.getElem_cons_zero, List.setIfInBounds_toArray, List.set_cons_zero, List.set_cons_succ]
  refine wpAnyH_ready (rs := [16]) (by kernel_rfl) (by simp) ?_
  refine AllReadyH.cons rfl (fun K1 hK => ?_) AllReadyH.nil
  go_simp
  have hk2 : Keeps [] W1 (W1.alloc (.cells #[.int .i64 i1, .int .i64 g1] 30)).drew := ((Keeps.refl [] W1).alloc _).drew
  refine hK.out _ _ (hSk _ hk2) (fun hHeld => ?_)
  clear hK K1
  refine wpAnyH_done (by kernel_rfl) ?_ _
  have hb5 : Blk (W1.alloc (.cells #[.int .i64 i1, .int .i64 g1] 30)).drew W1.heap.size 30 #[.int .i64 i1, .int .i64 g1] := Blk.drew (Blk.new W1 _ _)
  have h2 := H1.out.put (W1.heap.size, 30, #[.int .i64 i1, .int .i64 g1]) hk2 hb5 (Nat.le_refl _)
  have H2 := hid h2
  obtain ⟨a5, ha5⟩ : ∃ a, W1.heap.size = a := ⟨_, rfl⟩
  rw [ha5] at H2 ⊢
  obtain ⟨W2, hW2⟩ : ∃ x, (W1.alloc (.cells #[.int .i64 i1, .int .i64 g1] 30)).drew = x := ⟨_, rfl⟩
  rw [hW2] at H2 ⊢
  clear h2 hb5 hk2 hW2 hSk hSe hHeld ha5 e1 e2 e3 e4 e5 d0 d1 x2 H1 hmod1 hr1i hmi hmz
  have e1 := H2.out.cells.1
  have e2 := H2.out.cells.2.1
  have x0 := (H2.out.aside (W.heap.size, actT, actA 2 cc kk r u b pv) (by simp)).1.cell 0
  have x3 := (H2.out.aside (W.heap.size, actT, actA 2 cc kk r u b pv) (by simp)).1.cell 3
  have x4 := (H2.out.aside (W.heap.size, actT, actA 2 cc kk r u b pv) (by simp)).1.cell 4
  have y0 := (H2.out.aside (a5, 30, #[.int .i64 i1, .int .i64 g1]) (by simp)).1.cell 0
  have y1 := (H2.out.aside (a5, 30, #[.int .i64 i1, .int .i64 g1]) (by simp)).1.cell 1
  simp at x0 x3 x4 y0 y1
  go_wp2_with fail
  obtain ⟨S2, hSe⟩ : ∃ S : World → Prop, ∀ w', S w' ↔ (w'.cell? ⟨q, 0, none⟩ = some (.pointer (some ⟨pb, 0, none⟩)) ∧ w'.cell? ⟨q, 1, none⟩ = some (.pointer (some ⟨xb, 0, none⟩)) ∧ w'.cell? ⟨W.heap.size, 3, none⟩ = some (.bool r) ∧ w'.cell? ⟨W.heap.size, 4, none⟩ = some (.bool u) ∧ w'.cell? ⟨a5, 0, none⟩ = some (.int .i64 i1) ∧ w'.cell? ⟨a5, 1, none⟩ = some (.int .i64 g1)) := ⟨_, fun _ => Iff.rfl⟩
  have hSP : ∀ {w' : World} {F G : List Nat} {ds1 : WL} {D1 : Nat → Wd}, PB w w' pb n xb x q F G N L ds1 N L ds.length D1 (.slice (some ⟨gb, go, none⟩) hs.length gcap) hs [(a5, 30, #[.int .i64 i1, .int .i64 g1]), (W.heap.size, actT, actA 2 cc kk r u b pv)] → S2 w' := fun h => (hSe _).2 ⟨h.cells.1, h.cells.2.1, by simpa using (h.aside (W.heap.size, actT, actA 2 cc kk r u b pv) (by simp)).1.cell 3, by simpa using (h.aside (W.heap.size, actT, actA 2 cc kk r u b pv) (by simp)).1.cell 4, by simpa using (h.aside (a5, 30, #[.int .i64 i1, .int .i64 g1]) (by simp)).1.cell 0, by simpa using (h.aside (a5, 30, #[.int .i64 i1, .int .i64 g1]) (by simp)).1.cell 1⟩
  refine wp_region_held_drew (S := S2) (by kernel_rfl) (hSP (H2.out.next (Keeps.refl [] W2).drew)) (fun hHeld => ?_)
  refine wpAnyH_take (i := 0) (v := ?_) rfl (by kernel_rfl) (by kernel_rfl) (by kernel_rfl) (fun _ _ _ h => h) ?_ (by assumption) ?_
  rotate_left 1
  · first | (apply Or.inl; constructor; rfl; intro Wx hSw; obtain ⟨s1_, s2_, s3_, s4_, s5_, s6_⟩ := (hSe _).1 hSw; go_simp; try (with_reducible rfl)) | (apply Or.inr; constructor; rfl; rfl)
  try simp only [Act.put, List.getElem_toArray, List.getElem_cons_succ, List.getElem_cons_zero, List.setIfInBounds_toArray, List.set_cons_zero, List.set_cons_succ]
  refine wpAnyH_take (i := 1) (v := ?_) rfl (by kernel_rfl) (by kernel_rfl) (by kernel_rfl) (fun _ _ _ h => h) ?_ (by assumption) ?_
  rotate_left 1
  · first | (apply Or.inl; constructor; rfl; intro Wx hSw; obtain ⟨s1_, s2_, s3_, s4_, s5_, s6_⟩ := (hSe _).1 hSw; go_simp; try (with_reducible rfl)) | (apply Or.inr; constructor; rfl; rfl)
  try simp only [Act.put, List.getElem_toArray, List.getElem_cons_succ, List.getElem_cons_zero, List.setIfInBounds_toArray, List.set_cons_zero, List.set_cons_succ]
  refine wpAnyH_take (i := 2) (v := ?_) rfl (by kernel_rfl) (by kernel_rfl) (by kernel_rfl) (fun _ _ _ h => h) ?_ (by assumption) ?_
  rotate_left 1
  · first | (apply Or.inl; constructor; rfl; intro Wx hSw; obtain ⟨s1_, s2_, s3_, s4_, s5_, s6_⟩ := (hSe _).1 hSw; go_simp; try (with_reducible rfl)) | (apply Or.inr; constructor; rfl; rfl)
  try simp only [Act.put, List.getElem_toArray, List.getElem_cons_succ, List.getElem_cons_zero, List.setIfInBounds_toArray, List.set_cons_zero, List.set_cons_succ]
  refine wpAnyH_take (i := 3) (v := ?_) rfl (by kernel_rfl) (by kernel_rfl) (by kernel_rfl) (fun _ _ _ h => h) ?_ (by assumption) ?_
  rotate_left 1
  · first | (apply Or.inl; constructor; rfl; intro Wx hSw; obtain ⟨s1_, s2_, s3_, s4_, s5_, s6_⟩ := (hSe _).1 hSw; go_simp; try (with_reducible rfl)) | (apply Or.inr; constructor; rfl; rfl)
  try simp only [Act.put, List.getElem_toArray, List.getElem_cons_succ, List.getElem_cons_zero, List.setIfInBounds_toArray, List.set_cons_zero, List.set_cons_succ]
  refine wpAnyH_take (i := 4) (v := ?_) rfl (by kernel_rfl) (by kernel_rfl) (by kernel_rfl) (fun _ _ _ h => h) ?_ (by assumption) ?_
  rotate_left 1
  · first | (apply Or.inl; constructor; rfl; intro Wx hSw; obtain ⟨s1_, s2_, s3_, s4_, s5_, s6_⟩ := (hSe _).1 hSw; go_simp; try (with_reducible rfl)) | (apply Or.inr; constructor; rfl; rfl)
  try simp only [Act.put, List.getElem_toArray, List.getElem_cons_succ, List.getElem_cons_zero, List.setIfInBounds_toArray, List.set_cons_zero, List.set_cons_succ]
  refine wpAnyH_take (i := 5) (v := ?_) rfl (by kernel_rfl) (by kernel_rfl) (by kernel_rfl) (fun _ _ _ h => h) ?_ (by assumption) ?_
  rotate_left 1
  · first | (apply Or.inl; constructor; rfl; intro Wx hSw; obtain ⟨s1_, s2_, s3_, s4_, s5_, s6_⟩ := (hSe _).1 hSw; go_simp; try (with_reducible rfl)) | (apply Or.inr; constructor; rfl; rfl)
  try simp only [Act.put, List.getElem_toArray, List.getElem_cons_succ, List.getElem_cons_zero, List.setIfInBounds_toArray, List.set_cons_zero, List.set_cons_succ]
  refine wpAnyH_take (i := 6) (v := ?_) rfl (by kernel_rfl) (by kernel_rfl) (by kernel_rfl) (fun _ _ _ h => h) ?_ (by assumption) ?_
  rotate_left 1
  · first | (apply Or.inl; constructor; rfl; intro Wx hSw; obtain ⟨s1_, s2_, s3_, s4_, s5_, s6_⟩ := (hSe _).1 hSw; go_simp; try (with_reducible rfl)) | (apply Or.inr; constructor; rfl; rfl)
  try simp only [Act.put, List.getElem_toArray, List.getElem_cons_succ, List.getElem_cons_zero, List.setIfInBounds_toArray, List.set_cons_zero, List.set_cons_succ]
  refine wpAnyH_take (i := 7) (v := ?_) rfl (by kernel_rfl) (by kernel_rfl) (by kernel_rfl) (fun _ _ _ h => h) ?_ (by assumption) ?_
  rotate_left 1
  · first | (apply Or.inl; constructor; rfl; intro Wx hSw; obtain ⟨s1_, s2_, s3_, s4_, s5_, s6_⟩ := (hSe _).1 hSw; go_simp; try (with_reducible rfl)) | (apply Or.inr; constructor; rfl; rfl)
  try simp only [Act.put, List.getElem_toArray, List.getElem_cons_succ, List.getElem_cons_zero, List.setIfInBounds_toArray, List.set_cons_zero, List.set_cons_succ]
  refine wpAnyH_take (i := 8) (v := ?_) rfl (by kernel_rfl) (by kernel_rfl) (by kernel_rfl) (fun _ _ _ h => h) ?_ (by assumption) ?_
  rotate_left 1
  · first | (apply Or.inl; constructor; rfl; intro Wx hSw; obtain ⟨s1_, s2_, s3_, s4_, s5_, s6_⟩ := (hSe _).1 hSw; go_simp; try (with_reducible rfl)) | (apply Or.inr; constructor; rfl; rfl)
  try simp only [Act.put, List.getElem_toArray, List.getElem_cons_succ, List.getElem_cons_zero, List.setIfInBounds_toArray, List.set_cons_zero, List.set_cons_succ]
  refine wpAnyH_take (i := 10) (v := ?_) rfl (by kernel_rfl) (by kernel_rfl) (by kernel_rfl) (fun _ _ _ h => h) ?_ (by assumption) ?_
  rotate_left 1
  · first | (apply Or.inl; constructor; rfl; intro Wx hSw; obtain ⟨s1_, s2_, s3_, s4_, s5_, s6_⟩ := (hSe _).1 hSw; go_simp; try (with_reducible rfl)) | (apply Or.inr; constructor; rfl; rfl)
  try simp only [Act.put, List.getElem_toArray, List.getElem_cons_succ, List.getElem_cons_zero, List.setIfInBounds_toArray, List.set_cons_zero, List.set_cons_succ]
  refine wpAnyH_take (i := 11) (v := ?_) rfl (by kernel_rfl) (by kernel_rfl) (by kernel_rfl) (fun _ _ _ h => h) ?_ (by assumption) ?_
  rotate_left 1
  · first | (apply Or.inl; constructor; rfl; intro Wx hSw; obtain ⟨s1_, s2_, s3_, s4_, s5_, s6_⟩ := (hSe _).1 hSw; go_simp; try (with_reducible rfl)) | (apply Or.inr; constructor; rfl; rfl)
  try simp only [Act.put, List.getElem_toArray, List.getElem_cons_succ, List.getElem_cons_zero, List.setIfInBounds_toArray, List.set_cons_zero, List.set_cons_succ]
  refine wpAnyH_take (i := 12) (v := ?_) rfl (by kernel_rfl) (by kernel_rfl) (by kernel_rfl) (fun _ _ _ h => h) ?_ (by assumption) ?_
  rotate_left 1
  · first | (apply Or.inl; constructor; rfl; intro Wx hSw; obtain ⟨s1_, s2_, s3_, s4_, s5_, s6_⟩ := (hSe _).1 hSw; go_simp; try (with_reducible rfl)) | (apply Or.inr; constructor; rfl; rfl)
  try simp only [Act.put, List.getElem_toArray, List.getElem_cons_succ, List.getElem_cons_zero, List.setIfInBounds_toArray, List.set_cons_zero, List.set_cons_succ]
  refine wpAnyH_take (i := 13) (v := ?_) rfl (by kernel_rfl) (by kernel_rfl) (by kernel_rfl) (fun _ _ _ h => h) ?_ (by assumption) ?_
  rotate_left 1
  · first | (apply Or.inl; constructor; rfl; intro Wx hSw; obtain ⟨s1_, s2_, s3_, s4_, s5_, s6_⟩ := (hSe _).1 hSw; go_simp; try (with_reducible rfl)) | (apply Or.inr; constructor; rfl; rfl)
  try simp only [Act.put, List.getElem_toArray, List.getElem_cons_succ, List.getElem_cons_zero, List.setIfInBounds_toArray, List.set_cons_zero, List.set_cons_succ]
  refine wpAnyH_take (i := 14) (v := ?_) rfl (by kernel_rfl) (by kernel_rfl) (by kernel_rfl) (fun _ _ _ h => h) ?_ (by assumption) ?_
  rotate_left 1
  · first | (apply Or.inl; constructor; rfl; intro Wx hSw; obtain ⟨s1_, s2_, s3_, s4_, s5_, s6_⟩ := (hSe _).1 hSw; go_simp; try (with_reducible rfl)) | (apply Or.inr; constructor; rfl; rfl)
  try simp only [Act.put, List.getElem_toArray, List.getElem_cons_succ, List.getElem_cons_zero, List.setIfInBounds_toArray, List.set_cons_zero, List.set_cons_succ]
  refine wpAnyH_take (i := 15) (v := ?_) rfl (by kernel_rfl) (by kernel_rfl) (by kernel_rfl) (fun _ _ _ h => h) ?_ (by assumption) ?_
  rotate_left 1
  · first | (apply Or.inl; constructor; rfl; intro Wx hSw; obtain ⟨s1_, s2_, s3_, s4_, s5_, s6_⟩ := (hSe _).1 hSw; go_simp; try (with_reducible rfl)) | (apply Or.inr; constructor; rfl; rfl)
  try simp only [Act.put, List.getElem_toArray, List.getElem_cons_succ, List.getElem_cons_zero, List.setIfInBounds_toArray, List.set_cons_zero, List.set_cons_succ]
  refine wpAnyH_take (i := 16) (v := ?_) rfl (by kernel_rfl) (by kernel_rfl) (by kernel_rfl) (fun _ _ _ h => h) ?_ (by assumption) ?_
  rotate_left 1
  · first | (apply Or.inl; constructor; rfl; intro Wx hSw; obtain ⟨s1_, s2_, s3_, s4_, s5_, s6_⟩ := (hSe _).1 hSw; go_simp; try (with_reducible rfl)) | (apply Or.inr; constructor; rfl; rfl)
  try simp only [Act.put, List.getElem_toArray, List.getElem_cons_succ, List.getElem_cons_zero, List.setIfInBounds_toArray, List.set_cons_zero, List.set_cons_succ]
  refine wpAnyH_take (i := 17) (v := ?_) rfl (by kernel_rfl) (by kernel_rfl) (by kernel_rfl) (fun _ _ _ h => h) ?_ (by assumption) ?_
  rotate_left 1
  · first | (apply Or.inl; constructor; rfl; intro Wx hSw; obtain ⟨s1_, s2_, s3_, s4_, s5_, s6_⟩ := (hSe _).1 hSw; go_simp; try (with_reducible rfl)) | (apply Or.inr; constructor; rfl; rfl)
  try simp only [Act.put, List.getElem_toArray, List.getElem_cons_succ, List.getElem_cons_zero, List.setIfInBounds_toArray, List.set_cons_zero, List.set_cons_succ]
  refine wpAnyH_take (i := 18) (v := ?_) rfl (by kernel_rfl) (by kernel_rfl) (by kernel_rfl) (fun _ _ _ h => h) ?_ (by assumption) ?_
  rotate_left 1
  · first | (apply Or.inl; constructor; rfl; intro Wx hSw; obtain ⟨s1_, s2_, s3_, s4_, s5_, s6_⟩ := (hSe _).1 hSw; go_simp; try (with_reducible rfl)) | (apply Or.inr; constructor; rfl; rfl)
  try simp only [Act.put, List.getElem_toArray, List.getElem_cons_succ, List.getElem_cons_zero, List.setIfInBounds_toArray, List.set_cons_zero, List.set_cons_succ]
  refine wpAnyH_ready (rs := [9]) (by kernel_rfl) (by simp) ?_
  refine AllReadyH.cons rfl (fun K1 hK => ?_) AllReadyH.nil
  go_simp
  have hp := H2.out.next (Keeps.refl [] W2).drew
  refine (change_any pb n F N L ds i1 g1 r u _ hp.prog).mono ?_
  rintro e w3 (⟨hf, rfl, hk3⟩ | ⟨⟨d, hd⟩, rfl, hr3, hk3⟩)
  · have H3 := hid (hp.next hk3)
    refine hK.out _ _ (hSP H3.out) (fun hHeld => ?_)
    clear hK K1
    refine wpAnyH_ready (rs := [19]) (by kernel_rfl) (by simp) ?_
    refine AllReadyH.cons rfl (fun K1 hK => ?_) AllReadyH.nil
    go_simp
    refine (rchange_any xb x G N L ds.length D i1 g1 r u _ H3.out.ref).mono ?_
    rintro e w4 (⟨hl, rfl, hk4⟩ | ⟨k, v, hl, rfl, hr4, hk4⟩)
    · have H4 := hid (H3.out.next hk4)
      refine hK.out _ _ (hSP H4.out) (fun hHeld => ?_)
      clear hK K1
      refine wpAnyH_take (i := 20) (v := ?_) rfl (by kernel_rfl) (by kernel_rfl) (by kernel_rfl) (fun _ _ _ h => h) ?_ (by assumption) ?_
      rotate_left 1
      · first | (apply Or.inl; constructor; rfl; intro Wx hSw; obtain ⟨s1_, s2_, s3_, s4_, s5_, s6_⟩ := (hSe _).1 hSw; go_simp; try (with_reducible rfl)) | (apply Or.inr; constructor; rfl; rfl)
      try simp only [Act.put, List.getElem_toArray, List.getElem_cons_succ, List.getElem_cons_zero, List.setIfInBounds_toArray, List.set_cons_zero, List.set_cons_succ]
      refine wpAnyH_take (i := 21) (v := ?_) rfl (by kernel_rfl) (by kernel_rfl) (by kernel_rfl) (fun _ _ _ h => h) ?_ (by assumption) ?_
      rotate_left 1
      · first | (apply Or.inl; constructor; rfl; intro Wx hSw; obtain ⟨s1_, s2_, s3_, s4_, s5_, s6_⟩ := (hSe _).1 hSw; go_simp; try (with_reducible rfl)) | (apply Or.inr; constructor; rfl; rfl)
      try simp only [Act.put, List.getElem_toArray, List.getElem_cons_succ, List.getElem_cons_zero, List.setIfInBounds_toArray, List.set_cons_zero, List.set_cons_succ]
      refine wpAnyH_done (by kernel_rfl) ?_ _
      clear hp hk3 hk4 hf hl
      go_wp2_with fail
      rw [← HP.out]
      exact ⟨rfl, F, G, ds, D, HLR.out, rfl, H4.out.away (A' := []) (by simp)⟩
    · rw [(lr_live HLR.out i1 g1).1 hf] at hl
      cases hl
  · obtain ⟨k, v, hl, hik⟩ := (lr_live HLR.out i1 g1).2 d hd
    subst hik
    have H3 := hid (hp.pstep hr3 (fun k hk => .inl hk) hk3)
    refine hK.out _ _ (hSP H3.out) (fun hHeld => ?_)
    clear hK K1
    refine wpAnyH_ready (rs := [19]) (by kernel_rfl) (by simp) ?_
    refine AllReadyH.cons rfl (fun K1 hK => ?_) AllReadyH.nil
    go_simp
    refine (rchange_any xb x G N L ds.length D k g1 r u _ H3.out.ref).mono ?_
    rintro e w4 (⟨hl2, rfl, hk4⟩ | ⟨k2, v2, hl2, rfl, hr4, hk4⟩)
    · simp only at hl2
      rw [hl] at hl2
      cases hl2
    · simp only at hl2
      rw [hl] at hl2
      injection hl2 with hl2
      injection hl2 with hl2 hl3
      subst hl2
      have H4 := hid (H3.out.rstep hr4 (fun k hk => .inl hk) hk4)
      refine hK.out _ _ (hSP H4.out) (fun hHeld => ?_)
      clear hK K1
      refine wpAnyH_take (i := 20) (v := ?_) rfl (by kernel_rfl) (by kernel_rfl) (by kernel_rfl) (fun _ _ _ h => h) ?_ (by assumption) ?_
      rotate_left 1
      · first | (apply Or.inl; constructor; rfl; intro Wx hSw; obtain ⟨s1_, s2_, s3_, s4_, s5_, s6_⟩ := (hSe _).1 hSw; go_simp; try (with_reducible rfl)) | (apply Or.inr; constructor; rfl; rfl)
      try simp only [Act.put, List.getElem_toArray, List.getElem_cons_succ, List.getElem_cons_zero, List.setIfInBounds_toArray, List.set_cons_zero, List.set_cons_succ]
      refine wpAnyH_take (i := 21) (v := ?_) rfl (by kernel_rfl) (by kernel_rfl) (by kernel_rfl) (fun _ _ _ h => h) ?_ (by assumption) ?_
      rotate_left 1
      · first | (apply Or.inl; constructor; rfl; intro Wx hSw; obtain ⟨s1_, s2_, s3_, s4_, s5_, s6_⟩ := (hSe _).1 hSw; go_simp; try (with_reducible rfl)) | (apply Or.inr; constructor; rfl; rfl)
      try simp only [Act.put, List.getElem_toArray, List.getElem_cons_succ, List.getElem_cons_zero, List.setIfInBounds_toArray, List.set_cons_zero, List.set_cons_succ]
      refine wpAnyH_done (by kernel_rfl) ?_ _
      have HLC := hid (lr_change HLR.out hl r u)
      clear hp hk3 hk4 hl hr3 hr4 hd
      go_wp2_with fail
      rw [← HP.out]
      exact ⟨rfl, F, G, _, _, HLC.out, by simp [chgW], H4.out.away (A' := []) (by simp)⟩
end Go.Proofs.Ytkeffebcmajhmaa
