/- Arguments that are slices of slices of integers, opened. -/
import Derived.Test.YtkeffebcmajhmaaPq01
import Derived.Deep.Matrix
import Derived.Test.YtkeffebcmajhmaaRows
import Derived.Test.YtkeffebcmajhmaaPq16
import Derived.Deep.Slices
import Derived.Deep.Fields
import Derived.ChangeSame
import Derived.Test.YtkeffebcmajhmaaPq35
import Derived.Test.YtkeffebcmajhmaaPq37
import Derived.Test.YtkeffebcmajhmaaPq38
import Derived.Test.YtkeffebcmajhmaaPq39
import Derived.Test.YtkeffebcmajhmaaPq40
namespace Go.Proofs.Ytkeffebcmajhmaa
open Go.RowKit Go.Deep
theorem CellsIn.of_open' {w : World} {k : IntKind} {A : Option Addr} {len cap : Nat} {zs : List Int} (hl : len ≤ cap) (hm : cap ≤ maxLen) (hz : zs.length = cap) (h0 : A = none → cap = 0)
    (hcell : ∀ a, A = some a → ∀ i, i < cap → w.cell? (a.add i) = some (.int k (zs.getD i 0))) : CellsIn w [] (.slice A len cap) ((zs.take len).map (.int k)) := by
  cases A with
  | none =>
    have := h0 rfl
    have hl0 : len = 0 := by omega
    subst hl0
    subst this
    exact CellsIn.nil w []
  | some x => exact CellsIn.of_open hl hm hz (fun i hi => hcell x rfl i (by omega))
/-- a slice of slices of integers that came in. -/
theorem rows_of_open {H : Type} {enc : TypeId × Value → H} {P : Program} {w : World} {base : Nat} {held : Bool} {t e q : TypeId} {k : IntKind} {fuel : Nat} {v : Value} {x : DataW H × List MemPlace}
    (ht : P.underlying t = some (.slice e)) (he : P.underlying e = some (.slice q)) (hq : P.underlying q = some (.int k)) (ce : P.cellsOf e = 1) (cq : P.cellsOf q = 1)
    (h : DataW.trod enc P w base (fun _ => true) held fuel t [v] = some x) :
    ∃ rows : List (Value × List Int), CellsIn w [] v (rows.map (·.1)) ∧ (∀ r ∈ rows, CellsIn w [] r.1 (r.2.map (.int k))) ∧ ∀ r ∈ rows, ∀ n ∈ r.2, (Lit.int k n).wf = true := by
  rcases open_int_rows ht he hq ce cq h with ⟨hcs, -⟩ | ⟨a, len, cap, A, L, C, Z, hcs, -, hl, hm, -, hr⟩
  · injection hcs with hcs _
    subst hcs
    exact ⟨[], CellsIn.nil w [], by simp, by simp⟩
  · injection hcs with hcs _
    subst hcs
    refine ⟨(List.range len).map fun r => (.slice (A r) (L r) (C r), (Z r).take (L r)), ?_, ?_, ?_⟩
    · have hlen : (((List.range len).map fun r => ((.slice (A r) (L r) (C r), (Z r).take (L r)) : Value × List Int)).map (·.1)).length = len := by simp
      refine ⟨some a, cap, by rw [hlen], by omega, hm, fun hp => ?_⟩
      obtain ⟨b, o, spot⟩ := a
      have h0 := (hr 0 (by omega)).1
      have hspot : spot = none := by simpa [Addr.add] using World.cell?_spot h0
      subst hspot
      refine ⟨b, o, rfl, by simp, fun j u hu => ?_⟩
      have hj : j < len := by
        have := (List.getElem?_eq_some_iff.1 hu).1
        omega
      have h1 := (hr j (by omega)).1
      rw [Addr.add_lit] at h1
      rw [h1, ← hu]
      simp [hj]
    · intro r hrm
      obtain ⟨j, hj, rfl⟩ := List.mem_map.1 hrm
      have hj' : j < len := List.mem_range.1 hj
      obtain ⟨-, h2, h3, h4, -, h6, h7⟩ := hr j (by omega)
      exact CellsIn.of_open' h2 h3 h4 h6 (fun a' ha c hc => (h7 a' ha).2 c hc)
    · intro r hrm n hn
      obtain ⟨j, hj, rfl⟩ := List.mem_map.1 hrm
      have hj' : j < len := List.mem_range.1 hj
      obtain ⟨-, -, -, -, h5, -⟩ := hr j (by omega)
      exact h5 n (List.mem_of_mem_take hn)
end Go.Proofs.Ytkeffebcmajhmaa
/- Arguments that are slices of slices of integers, opened, with a bound on the rows out of the reading's bulk. -/
namespace Go.Proofs.Ytkeffebcmajhmaa
open Go.RowKit Go.Deep Go.ChangeShapes
theorem bulk_lits {H : Type} (k : IntKind) : ∀ zs : List Int, Rows.uptoBulkAll (lits (H := H) k zs) = zs.length
  | [] => rfl
  | z :: zs => by
    have h := bulk_lits (H := H) k zs
    unfold lits at h ⊢
    simp only [List.map_cons, Rows.uptoBulkAll, Rows.uptoBulk, h, List.length_cons]
    omega
theorem bulk_row {H : Type} (k : IntKind) (A : Option Addr) (L : Nat) (zs : List Int) (h : A = none → zs = []) : zs.length ≤ Rows.uptoBulk (intRow (H := H) k A L zs) := by
  cases A with
  | none => simp [h rfl]
  | some a =>
    simp only [intRow, Rows.uptoBulk, bulk_lits, List.length_take, List.length_drop]
    omega
theorem bulk_mem {H : Type} : ∀ (ds : List (DataW H)) (d : DataW H), d ∈ ds → Rows.uptoBulk d ≤ Rows.uptoBulkAll ds
  | [], _, h => by cases h
  | e :: ds, d, h => by
    simp only [Rows.uptoBulkAll]
    rcases List.mem_cons.1 h with rfl | h
    · omega
    · have := bulk_mem ds d h
      omega
/-- a slice of slices of integers that came in, its rows bounded by its bulk. -/
theorem rows_upto {H : Type} {enc : TypeId × Value → H} {P : Program} {w : World} {base : Nat} {held : Bool} {t e q : TypeId} {k : IntKind} {fuel : Nat} {v : Value} {x : DataW H × List MemPlace}
    (ht : P.underlying t = some (.slice e)) (he : P.underlying e = some (.slice q)) (hq : P.underlying q = some (.int k)) (ce : P.cellsOf e = 1) (cq : P.cellsOf q = 1)
    (h : DataW.trod enc P w base (fun _ => true) held fuel t [v] = some x) :
    ∃ rows : List (Value × List Int), CellsIn w [] v (rows.map (·.1)) ∧ (∀ r ∈ rows, CellsIn w [] r.1 (r.2.map (.int k))) ∧ (∀ r ∈ rows, ∀ n ∈ r.2, (Lit.int k n).wf = true) ∧ ∀ r ∈ rows, r.2.length ≤ Rows.uptoBulk x.1 := by
  rcases open_int_rows ht he hq ce cq h with ⟨hcs, -⟩ | ⟨a, len, cap, A, L, C, Z, hcs, -, hl, hm, hx, hr⟩
  · injection hcs with hcs _
    subst hcs
    exact ⟨[], CellsIn.nil w [], by simp, by simp, by simp⟩
  · injection hcs with hcs _
    subst hcs
    refine ⟨(List.range len).map fun r => (.slice (A r) (L r) (C r), (Z r).take (L r)), ?_, ?_, ?_, ?_⟩
    · have hlen : (((List.range len).map fun r => ((.slice (A r) (L r) (C r), (Z r).take (L r)) : Value × List Int)).map (·.1)).length = len := by simp
      refine ⟨some a, cap, by rw [hlen], by omega, hm, fun hp => ?_⟩
      obtain ⟨b, o, spot⟩ := a
      have h0 := (hr 0 (by omega)).1
      have hspot : spot = none := by simpa [Addr.add] using World.cell?_spot h0
      subst hspot
      refine ⟨b, o, rfl, by simp, fun j u hu => ?_⟩
      have hj : j < len := by
        have := (List.getElem?_eq_some_iff.1 hu).1
        omega
      have h1 := (hr j (by omega)).1
      rw [Addr.add_lit] at h1
      rw [h1, ← hu]
      simp [hj]
    · intro r hrm
      obtain ⟨j, hj, rfl⟩ := List.mem_map.1 hrm
      have hj' : j < len := List.mem_range.1 hj
      obtain ⟨-, h2, h3, h4, -, h6, h7⟩ := hr j (by omega)
      exact CellsIn.of_open' h2 h3 h4 h6 (fun a' ha c hc => (h7 a' ha).2 c hc)
    · intro r hrm n hn
      obtain ⟨j, hj, rfl⟩ := List.mem_map.1 hrm
      have hj' : j < len := List.mem_range.1 hj
      obtain ⟨-, -, -, -, h5, -⟩ := hr j (by omega)
      exact h5 n (List.mem_of_mem_take hn)
    · intro r hrm
      obtain ⟨j, hj, rfl⟩ := List.mem_map.1 hrm
      have hj' : j < len := List.mem_range.1 hj
      obtain ⟨-, -, -, h4, -, h6, -⟩ := hr j (by omega)
      have h8 := bulk_row (H := H) k (A j) (L j) (Z j) (fun hA => List.eq_nil_of_length_eq_zero (by rw [h4, h6 hA]))
      have h9 := bulk_mem ((List.range len).map fun r => intRow (H := H) k (A r) (L r) (Z r)) _ (List.mem_map.2 ⟨j, hj, rfl⟩)
      rw [hx]
      simp only [Rows.uptoBulk, List.length_take]
      omega
end Go.Proofs.Ytkeffebcmajhmaa
/- A script of the net that came in: its acts, opened. -/
namespace Go.Proofs.Ytkeffebcmajhmaa
open Go.RowKit Go.Deep Go.ChangeShapes Go.WideShapes
section
variable {H : Type} {enc : TypeId × Value → H} {P : Program} {w : World} {base : Nat} {spare : Nat → Bool} {held : Bool}
theorem open_slice_fields {t e : TypeId} {fs : Array Field} {fuel : Nat} {cs : List Value} {x : DataW H × List MemPlace} (ht : P.underlying t = some (.slice e)) (he : P.underlying e = some (.struct fs))
    (hone : oneCellFields P fs = true) (hC : P.cellsOf e = fs.size) (h : DataW.trod enc P w base spare held fuel t cs = some x) :
    (cs = [.slice none 0 0] ∧ x = (.nil, [])) ∨
    ∃ (a : Addr) (len cap m : Nat) (D : Nat → DataW H) (Pl : Nat → List MemPlace), cs = [.slice (some a) len cap] ∧ base ≤ a.block ∧ len ≤ cap ∧ cap ≤ maxLen ∧ m = (if spare a.block then cap else len) ∧
      x = (.slice ((List.range len).map D) ((List.range (m - len)).map fun j => D (len + j)), MemPlace.row a (m * fs.size) ++ (List.range m).flatMap Pl) ∧
      ∀ i, i < m → ∃ (ys : List (DataW H × List MemPlace)) (n : Nat), D i = .agg (ys.map (·.1)) ∧ Pl i = ys.flatMap (·.2) ∧ ys.length = fs.size ∧
        ∀ (j : Nat) (f : Field), fs[j]? = some f → ∃ (v : Value) (y : DataW H × List MemPlace), w.cell? (a.add (i * fs.size + j)) = some v ∧ ys[j]? = some y ∧ DataW.trod enc P w base spare held n f.type [v] = some y := by
  rcases open_slice ht h with h0 | ⟨a, len, cap, m, n, D, Pl, hcs, hb, hl, hm, hmm, hx, hi⟩
  · exact .inl h0
  · refine .inr ⟨a, len, cap, m, D, Pl, hcs, hb, hl, hm, hmm, by rw [hC] at hx; exact hx, fun i him => ?_⟩
    obtain ⟨cs', hc, ht'⟩ := hi i him
    rw [hC] at hc
    obtain ⟨ys, n', hn', hy, hlen, hyl, hf⟩ := DataW.trod_struct he ht'
    obtain ⟨_, hcl, hat⟩ := World.cells?_some hc
    simp only [Prod.mk.injEq] at hy
    refine ⟨ys, n', hy.1, hy.2, hyl, fun j f hj => ?_⟩
    obtain ⟨ho, hk⟩ := hone_of hone j f hj
    have hjl : j < fs.size := (Array.getElem?_eq_some_iff.1 hj).1
    have hcell := hat j hjl
    have hv : cs'[j]? = some (cs'[j]'(by omega)) := List.getElem?_eq_getElem (by omega)
    have h1 := hf j f hj
    rw [ho, hk] at h1
    have hone' : (cs'.drop j).take 1 = [cs'[j]'(by omega)] := by
      rw [List.drop_eq_getElem_cons (by omega)]
      rfl
    rw [hone'] at h1
    have hys : ys[j]? = some (ys[j]'(by omega)) := List.getElem?_eq_getElem (by omega)
    refine ⟨_, _, ?_, hys, h1.trans hys⟩
    rw [← Go.Deep.add_add, hcell, hv]
end
structure NAct where
  k : Int
  c : Int
  n : Int
  bv : Value
  b : List Int
  av : Value
  a : List Int
instance : Inhabited NAct := ⟨⟨0, 0, 0, .slice none 0 0, [], .slice none 0 0, []⟩⟩
/-- v is a script. -/
def NActsIn (w : World) (v : Value) (l : List NAct) : Prop :=
  ∃ A cap, v = .slice A l.length cap ∧ l.length ≤ cap ∧ cap ≤ maxLen ∧ (0 < l.length → ∃ b o, A = some ⟨b, o, none⟩ ∧ ∀ j a, l[j]? = some a →
    w.cell? ⟨b, o + j * 5, none⟩ = some (.int .i64 a.k) ∧ w.cell? ⟨b, o + j * 5 + 1, none⟩ = some (.int .i64 a.c) ∧ w.cell? ⟨b, o + j * 5 + 2, none⟩ = some (.int .i64 a.n) ∧ w.cell? ⟨b, o + j * 5 + 3, none⟩ = some a.bv ∧ w.cell? ⟨b, o + j * 5 + 4, none⟩ = some a.av) ∧
  ∀ a ∈ l, CellsIn w [] a.bv (a.b.map (.int .u8)) ∧ CellsIn w [] a.av (a.a.map (.int .u8)) ∧ -9223372036854775808 ≤ a.n ∧ a.n ≤ 9223372036854775807
theorem NActsIn.keeps {w w' : World} {v : Value} {l : List NAct} (h : NActsIn w v l) (hk : Keeps [] w w') : NActsIn w' v l := by
  obtain ⟨A, cap, hv, h1, h2, h3, h4⟩ := h
  refine ⟨A, cap, hv, h1, h2, fun hp => ?_, fun a ha => ⟨(h4 a ha).1.keeps hk (by simp), (h4 a ha).2.1.keeps hk (by simp), (h4 a ha).2.2⟩⟩
  obtain ⟨b, o, hA, hc⟩ := h3 hp
  refine ⟨b, o, hA, fun j a hj => ?_⟩
  obtain ⟨c0, c1, c2, c3, c4⟩ := hc j a hj
  exact ⟨cell_keep hk (by simp) c0, cell_keep hk (by simp) c1, cell_keep hk (by simp) c2, cell_keep hk (by simp) c3, cell_keep hk (by simp) c4⟩
theorem NActsIn.shape {w : World} {v : Value} {l : List NAct} (h : NActsIn w v l) : ∃ A c, v = .slice A l.length c ∧ l.length ≤ c ∧ c ≤ 9223372036854775807 := by
  obtain ⟨A, c, hv, h1, h2, h3⟩ := h
  exact ⟨A, c, hv, h1, by unfold maxLen at h2; omega⟩
theorem NActsIn.at_ {w : World} {A : Option Addr} {n c : Nat} {l : List NAct} (h : NActsIn w (.slice A n c) l) (hn : 0 < l.length) :
    ∃ b o, A = some ⟨b, o, none⟩ ∧ ∀ j a, l[j]? = some a →
      w.cell? ⟨b, o + j * 5, none⟩ = some (.int .i64 a.k) ∧ w.cell? ⟨b, o + j * 5 + 1, none⟩ = some (.int .i64 a.c) ∧ w.cell? ⟨b, o + j * 5 + 2, none⟩ = some (.int .i64 a.n) ∧ w.cell? ⟨b, o + j * 5 + 3, none⟩ = some a.bv ∧ w.cell? ⟨b, o + j * 5 + 4, none⟩ = some a.av := by
  obtain ⟨A', c', hv, h1, h2, h3, -⟩ := h
  injection hv with hA
  subst hA
  exact h3 hn
theorem NActsIn.rows {w : World} {v : Value} {l : List NAct} (h : NActsIn w v l) (a : NAct) (ha : a ∈ l) : CellsIn w [] a.bv (a.b.map (.int .u8)) ∧ CellsIn w [] a.av (a.a.map (.int .u8)) ∧ -9223372036854775808 ≤ a.n ∧ a.n ≤ 9223372036854775807 := by
  obtain ⟨_, _, _, _, _, _, h4⟩ := h
  exact h4 a ha
theorem ints_upto {H : Type} {enc : TypeId × Value → H} {P : Program} {w : World} {base : Nat} {held : Bool} {t e : TypeId} {k : IntKind} {fuel : Nat} {v : Value} {x : DataW H × List MemPlace}
    (ht : P.underlying t = some (.slice e)) (he : P.underlying e = some (.int k)) (ce : P.cellsOf e = 1)
    (h : DataW.trod enc P w base (fun _ => true) held fuel t [v] = some x) : ∃ zs : List Int, CellsIn w [] v (zs.map (.int k)) ∧ zs.length ≤ Rows.uptoBulk x.1 := by
  rcases open_ints ht he ce h with ⟨hcs, -⟩ | ⟨a, len, cap, zs, hcs, -, hl, hm, hz, hx, hcell, -⟩
  · injection hcs with hcs _
    subst hcs
    exact ⟨[], CellsIn.nil w [], by simp⟩
  · injection hcs with hcs _
    subst hcs
    simp only [if_true] at hz
    refine ⟨zs.take len, CellsIn.of_open hl hm hz hcell, ?_⟩
    rw [hx]
    simp only [Rows.uptoBulk, bulk_lits, List.length_take, List.length_drop]
    omega
theorem wf_i64 {x : Int} (h : (Lit.int .i64 x).wf = true) : -9223372036854775808 ≤ x ∧ x ≤ 9223372036854775807 := by
  simp [Lit.wf, IntKind.min, IntKind.max, IntKind.bits, IntKind.signed] at h
  omega
/-- a script that came in, its rows bounded by its bulk. -/
theorem nacts_upto {H : Type} {enc : TypeId × Value → H} {P : Program} {w : World} {base : Nat} {held : Bool} {t e q b ti : TypeId} {f0 f1 f2 f3 f4 : Field} {fuel : Nat} {v : Value} {x : DataW H × List MemPlace}
    (ht : P.underlying t = some (.slice e)) (he : P.underlying e = some (.struct #[f0, f1, f2, f3, f4])) (hone : oneCellFields P #[f0, f1, f2, f3, f4] = true) (hC : P.cellsOf e = 5)
    (e0 : f0.type = ti) (e1 : f1.type = ti) (e2 : f2.type = ti) (e3 : f3.type = q) (e4 : f4.type = q) (hi : P.underlying ti = some (.int .i64)) (hq : P.underlying q = some (.slice b)) (hb : P.underlying b = some (.int .u8)) (cb : P.cellsOf b = 1)
    (h : DataW.trod enc P w base (fun _ => true) held fuel t [v] = some x) :
    ∃ l : List NAct, NActsIn w v l ∧ ∀ a ∈ l, a.b.length ≤ Rows.uptoBulk x.1 ∧ a.a.length ≤ Rows.uptoBulk x.1 := by
  rcases open_slice_fields ht he hone hC h with ⟨hcs, -⟩ | ⟨a, len, cap, m, D, Pl, hcs, -, hl, hm, hmm, hx, hr⟩
  · injection hcs with hcs _
    subst hcs
    exact ⟨[], ⟨none, 0, rfl, by simp, by simp [maxLen], by simp, by simp⟩, by simp⟩
  · injection hcs with hcs _
    subst hcs
    simp only [if_true] at hmm
    subst hmm
    have each : ∀ i, i < m → ∃ d : NAct, w.cell? (a.add (i * 5)) = some (.int .i64 d.k) ∧ w.cell? (a.add (i * 5 + 1)) = some (.int .i64 d.c) ∧ w.cell? (a.add (i * 5 + 2)) = some (.int .i64 d.n) ∧ w.cell? (a.add (i * 5 + 3)) = some d.bv ∧ w.cell? (a.add (i * 5 + 4)) = some d.av ∧
        CellsIn w [] d.bv (d.b.map (.int .u8)) ∧ CellsIn w [] d.av (d.a.map (.int .u8)) ∧ (-9223372036854775808 ≤ d.n ∧ d.n ≤ 9223372036854775807) ∧ d.b.length ≤ Rows.uptoBulk (D i) ∧ d.a.length ≤ Rows.uptoBulk (D i) := by
      intro i him
      obtain ⟨ys, n, hD, -, hyl, hf⟩ := hr i him
      obtain ⟨v0, y0, c0, h0, t0⟩ := hf 0 f0 rfl
      obtain ⟨v1, y1, c1, h1, t1⟩ := hf 1 f1 rfl
      obtain ⟨v2, y2, c2, h2, t2⟩ := hf 2 f2 rfl
      obtain ⟨v3, y3, c3, h3, t3⟩ := hf 3 f3 rfl
      obtain ⟨v4, y4, c4, h4, t4⟩ := hf 4 f4 rfl
      rw [e0] at t0
      rw [e1] at t1
      rw [e2] at t2
      rw [e3] at t3
      rw [e4] at t4
      obtain ⟨k0, hk0, -, -⟩ := DataW.trod_int hi t0
      obtain ⟨k1, hk1, -, -⟩ := DataW.trod_int hi t1
      obtain ⟨k2, hk2, -, hw2⟩ := DataW.trod_int hi t2
      injection hk0 with hk0 _
      injection hk1 with hk1 _
      injection hk2 with hk2 _
      subst hk0 hk1 hk2
      obtain ⟨z3, r3, b3⟩ := ints_upto hq hb cb t3
      obtain ⟨z4, r4, b4⟩ := ints_upto hq hb cb t4
      have m3 := bulk_mem (ys.map (·.1)) y3.1 (List.mem_map.2 ⟨y3, List.mem_of_getElem? h3, rfl⟩)
      have m4 := bulk_mem (ys.map (·.1)) y4.1 (List.mem_map.2 ⟨y4, List.mem_of_getElem? h4, rfl⟩)
      refine ⟨⟨k0, k1, k2, v3, z3, v4, z4⟩, c0, c1, c2, c3, c4, r3, r4, wf_i64 hw2, ?_, ?_⟩
      · rw [hD]
        simp only [Rows.uptoBulk]
        omega
      · rw [hD]
        simp only [Rows.uptoBulk]
        omega
    obtain ⟨d, hd⟩ := choose_lt each
    refine ⟨(List.range len).map d, ⟨some a, m, by simp, by simpa using hl, hm, fun hp => ?_, fun x hx => ?_⟩, fun x hx' => ?_⟩
    · simp at hp
      obtain ⟨b, o, spot⟩ := a
      have h0 := (hd 0 (by omega)).1
      have hspot : spot = none := by simpa [Addr.add] using World.cell?_spot h0
      subst hspot
      refine ⟨b, o, rfl, fun j y hy => ?_⟩
      have hj : j < len := by
        have := (List.getElem?_eq_some_iff.1 hy).1
        simpa using this
      have hyd : d j = y := by simpa [hj] using hy
      subst hyd
      obtain ⟨c0, c1, c2, c3, c4, -⟩ := hd j (by omega)
      rw [Addr.add_lit] at c0 c1 c2 c3 c4
      simp only [← Nat.add_assoc] at c1 c2 c3 c4
      exact ⟨c0, c1, c2, c3, c4⟩
    · obtain ⟨j, hj, rfl⟩ := List.mem_map.1 hx
      have hj' : j < len := List.mem_range.1 hj
      obtain ⟨-, -, -, -, -, r3, r4, r5, -⟩ := hd j (by omega)
      exact ⟨r3, r4, r5⟩
    · obtain ⟨j, hj, rfl⟩ := List.mem_map.1 hx'
      have hj' : j < len := List.mem_range.1 hj
      obtain ⟨-, -, -, -, -, -, -, -, b2, b3⟩ := hd j (by omega)
      have m1 := bulk_mem ((List.range len).map D) (D j) (List.mem_map.2 ⟨j, hj, rfl⟩)
      rw [hx]
      simp only [Rows.uptoBulk]
      omega
end Go.Proofs.Ytkeffebcmajhmaa
/- A script of the poller that came in: its acts, opened. -/
namespace Go.Proofs.Ytkeffebcmajhmaa
open Go.RowKit Go.Deep Go.ChangeShapes Go.WideShapes
structure PAct where
  k : Int
  c : Int
  n : Int
  r : Bool
  u : Bool
  e : Bool
  pv : Value
  ps : List Int
instance : Inhabited PAct := ⟨⟨0, 0, 0, false, false, false, .slice none 0 0, []⟩⟩
/-- v is a script. -/
def PActsIn (w : World) (v : Value) (l : List PAct) : Prop :=
  ∃ A cap, v = .slice A l.length cap ∧ l.length ≤ cap ∧ cap ≤ maxLen ∧ (0 < l.length → ∃ b o, A = some ⟨b, o, none⟩ ∧ ∀ j a, l[j]? = some a →
    w.cell? ⟨b, o + j * 7, none⟩ = some (.int .i64 a.k) ∧ w.cell? ⟨b, o + j * 7 + 1, none⟩ = some (.int .i64 a.c) ∧ w.cell? ⟨b, o + j * 7 + 2, none⟩ = some (.int .i64 a.n) ∧ w.cell? ⟨b, o + j * 7 + 3, none⟩ = some (.bool a.r) ∧ w.cell? ⟨b, o + j * 7 + 4, none⟩ = some (.bool a.u) ∧ w.cell? ⟨b, o + j * 7 + 5, none⟩ = some (.bool a.e) ∧ w.cell? ⟨b, o + j * 7 + 6, none⟩ = some a.pv) ∧
  ∀ a ∈ l, CellsIn w [] a.pv (a.ps.map (.int .i64))
theorem PActsIn.keeps {w w' : World} {v : Value} {l : List PAct} (h : PActsIn w v l) (hk : Keeps [] w w') : PActsIn w' v l := by
  obtain ⟨A, cap, hv, h1, h2, h3, h4⟩ := h
  refine ⟨A, cap, hv, h1, h2, fun hp => ?_, fun a ha => (h4 a ha).keeps hk (by simp)⟩
  obtain ⟨b, o, hA, hc⟩ := h3 hp
  refine ⟨b, o, hA, fun j a hj => ?_⟩
  obtain ⟨c0, c1, c2, c3, c4, c5, c6⟩ := hc j a hj
  exact ⟨cell_keep hk (by simp) c0, cell_keep hk (by simp) c1, cell_keep hk (by simp) c2, cell_keep hk (by simp) c3, cell_keep hk (by simp) c4, cell_keep hk (by simp) c5, cell_keep hk (by simp) c6⟩
theorem PActsIn.shape {w : World} {v : Value} {l : List PAct} (h : PActsIn w v l) : ∃ A c, v = .slice A l.length c ∧ l.length ≤ c ∧ c ≤ 9223372036854775807 := by
  obtain ⟨A, c, hv, h1, h2, h3⟩ := h
  exact ⟨A, c, hv, h1, by unfold maxLen at h2; omega⟩
theorem PActsIn.at_ {w : World} {A : Option Addr} {n c : Nat} {l : List PAct} (h : PActsIn w (.slice A n c) l) (hn : 0 < l.length) :
    ∃ b o, A = some ⟨b, o, none⟩ ∧ ∀ j a, l[j]? = some a →
      w.cell? ⟨b, o + j * 7, none⟩ = some (.int .i64 a.k) ∧ w.cell? ⟨b, o + j * 7 + 1, none⟩ = some (.int .i64 a.c) ∧ w.cell? ⟨b, o + j * 7 + 2, none⟩ = some (.int .i64 a.n) ∧ w.cell? ⟨b, o + j * 7 + 3, none⟩ = some (.bool a.r) ∧ w.cell? ⟨b, o + j * 7 + 4, none⟩ = some (.bool a.u) ∧ w.cell? ⟨b, o + j * 7 + 5, none⟩ = some (.bool a.e) ∧ w.cell? ⟨b, o + j * 7 + 6, none⟩ = some a.pv := by
  obtain ⟨A', c', hv, h1, h2, h3, -⟩ := h
  injection hv with hA
  subst hA
  exact h3 hn
theorem PActsIn.rows {w : World} {v : Value} {l : List PAct} (h : PActsIn w v l) (a : PAct) (ha : a ∈ l) : CellsIn w [] a.pv (a.ps.map (.int .i64)) := by
  obtain ⟨_, _, _, _, _, _, h4⟩ := h
  exact h4 a ha
/-- a script that came in, its rows bounded by its bulk. -/
theorem pacts_upto {H : Type} {enc : TypeId × Value → H} {P : Program} {w : World} {base : Nat} {held : Bool} {t e q ti tb : TypeId} {f0 f1 f2 f3 f4 f5 f6 : Field} {fuel : Nat} {v : Value} {x : DataW H × List MemPlace}
    (ht : P.underlying t = some (.slice e)) (he : P.underlying e = some (.struct #[f0, f1, f2, f3, f4, f5, f6])) (hone : oneCellFields P #[f0, f1, f2, f3, f4, f5, f6] = true) (hC : P.cellsOf e = 7)
    (e0 : f0.type = ti) (e1 : f1.type = ti) (e2 : f2.type = ti) (e3 : f3.type = tb) (e4 : f4.type = tb) (e5 : f5.type = tb) (e6 : f6.type = q) (hi : P.underlying ti = some (.int .i64)) (hbo : P.underlying tb = some .bool) (hq : P.underlying q = some (.slice ti)) (cb : P.cellsOf ti = 1)
    (h : DataW.trod enc P w base (fun _ => true) held fuel t [v] = some x) :
    ∃ l : List PAct, PActsIn w v l ∧ ∀ a ∈ l, a.ps.length ≤ Rows.uptoBulk x.1 := by
  rcases open_slice_fields ht he hone hC h with ⟨hcs, -⟩ | ⟨a, len, cap, m, D, Pl, hcs, -, hl, hm, hmm, hx, hr⟩
  · injection hcs with hcs _
    subst hcs
    exact ⟨[], ⟨none, 0, rfl, by simp, by simp [maxLen], by simp, by simp⟩, by simp⟩
  · injection hcs with hcs _
    subst hcs
    simp only [if_true] at hmm
    subst hmm
    have each : ∀ i, i < m → ∃ d : PAct, w.cell? (a.add (i * 7)) = some (.int .i64 d.k) ∧ w.cell? (a.add (i * 7 + 1)) = some (.int .i64 d.c) ∧ w.cell? (a.add (i * 7 + 2)) = some (.int .i64 d.n) ∧ w.cell? (a.add (i * 7 + 3)) = some (.bool d.r) ∧ w.cell? (a.add (i * 7 + 4)) = some (.bool d.u) ∧ w.cell? (a.add (i * 7 + 5)) = some (.bool d.e) ∧ w.cell? (a.add (i * 7 + 6)) = some d.pv ∧
        CellsIn w [] d.pv (d.ps.map (.int .i64)) ∧ d.ps.length ≤ Rows.uptoBulk (D i) := by
      intro i him
      obtain ⟨ys, n, hD, -, hyl, hf⟩ := hr i him
      obtain ⟨v0, y0, c0, h0, t0⟩ := hf 0 f0 rfl
      obtain ⟨v1, y1, c1, h1, t1⟩ := hf 1 f1 rfl
      obtain ⟨v2, y2, c2, h2, t2⟩ := hf 2 f2 rfl
      obtain ⟨v3, y3, c3, h3, t3⟩ := hf 3 f3 rfl
      obtain ⟨v4, y4, c4, h4, t4⟩ := hf 4 f4 rfl
      obtain ⟨v5, y5, c5, h5, t5⟩ := hf 5 f5 rfl
      obtain ⟨v6, y6, c6, h6, t6⟩ := hf 6 f6 rfl
      rw [e0] at t0
      rw [e1] at t1
      rw [e2] at t2
      rw [e3] at t3
      rw [e4] at t4
      rw [e5] at t5
      rw [e6] at t6
      obtain ⟨k0, hk0, -, -⟩ := DataW.trod_int hi t0
      obtain ⟨k1, hk1, -, -⟩ := DataW.trod_int hi t1
      obtain ⟨k2, hk2, -, -⟩ := DataW.trod_int hi t2
      obtain ⟨b3, hb3, -⟩ := DataW.trod_bool hbo t3
      obtain ⟨b4, hb4, -⟩ := DataW.trod_bool hbo t4
      obtain ⟨b5, hb5, -⟩ := DataW.trod_bool hbo t5
      injection hk0 with hk0 _
      injection hk1 with hk1 _
      injection hk2 with hk2 _
      injection hb3 with hb3 _
      injection hb4 with hb4 _
      injection hb5 with hb5 _
      subst hk0 hk1 hk2 hb3 hb4 hb5
      obtain ⟨z6, r6, l6⟩ := ints_upto hq hi cb t6
      have m6 := bulk_mem (ys.map (·.1)) y6.1 (List.mem_map.2 ⟨y6, List.mem_of_getElem? h6, rfl⟩)
      refine ⟨⟨k0, k1, k2, b3, b4, b5, v6, z6⟩, c0, c1, c2, c3, c4, c5, c6, r6, ?_⟩
      rw [hD]
      simp only [Rows.uptoBulk]
      omega
    obtain ⟨d, hd⟩ := choose_lt each
    refine ⟨(List.range len).map d, ⟨some a, m, by simp, by simpa using hl, hm, fun hp => ?_, fun x hx => ?_⟩, fun x hx' => ?_⟩
    · simp at hp
      obtain ⟨b, o, spot⟩ := a
      have h0 := (hd 0 (by omega)).1
      have hspot : spot = none := by simpa [Addr.add] using World.cell?_spot h0
      subst hspot
      refine ⟨b, o, rfl, fun j y hy => ?_⟩
      have hj : j < len := by
        have := (List.getElem?_eq_some_iff.1 hy).1
        simpa using this
      have hyd : d j = y := by simpa [hj] using hy
      subst hyd
      obtain ⟨c0, c1, c2, c3, c4, c5, c6, -⟩ := hd j (by omega)
      rw [Addr.add_lit] at c0 c1 c2 c3 c4 c5 c6
      simp only [← Nat.add_assoc] at c1 c2 c3 c4 c5 c6
      exact ⟨c0, c1, c2, c3, c4, c5, c6⟩
    · obtain ⟨j, hj, rfl⟩ := List.mem_map.1 hx
      have hj' : j < len := List.mem_range.1 hj
      obtain ⟨-, -, -, -, -, -, -, r6, -⟩ := hd j (by omega)
      exact r6
    · obtain ⟨j, hj, rfl⟩ := List.mem_map.1 hx'
      have hj' : j < len := List.mem_range.1 hj
      obtain ⟨-, -, -, -, -, -, -, -, b6⟩ := hd j (by omega)
      have m1 := bulk_mem ((List.range len).map D) (D j) (List.mem_map.2 ⟨j, hj, rfl⟩)
      rw [hx]
      simp only [Rows.uptoBulk]
      omega
end Go.Proofs.Ytkeffebcmajhmaa
/- PollPlays: one step of both, any kind: what stands between the steps. -/
namespace Go.Proofs.Ytkeffebcmajhmaa
open Go.RowKit
set_option linter.unusedVariables false
set_option linter.unusedSimpArgs false
theorem wireN_ok {N : NS} {B : Int} (h : OkN N B) (hB : 0 ≤ B) (kd c k : Int) : OkN (wireN kd N c k) (B + 1024) := by
  unfold wireN
  repeat' split
  · exact (okN_connect h _ hB).mono (by omega)
  · exact (okN_accept h).mono (by omega)
  · exact (okN_send h _ _).mono (by omega)
  · exact (okN_open h _ _).mono (by omega)
  · exact (okN_reset h _).mono (by omega)
  · exact (okN_half h _).mono (by omega)
  · exact (okN_close _ h).mono (by omega)
  · exact okN_read h _ _
  · exact (okN_write h _ _).mono (by simp)
  · exact (okN_shut h _).mono (by omega)
  · exact (okN_stop h).mono (by omega)
  · exact h.mono (by omega)
theorem wireN_mk {N : NS} {B : Int} (h : MarkOk N) (hO : OkN N B) (kd c k : Int) : MarkOk (wireN kd N c k) := by
  unfold wireN
  repeat' split
  · exact mk_connect h hO _
  · exact mk_accept h hO
  · exact mk_send h hO _ _
  · exact mk_open h hO _ _
  · exact mk_reset h hO _
  · exact mk_half h hO _
  · exact mk_close _ h
  · exact mk_read h hO _ _
  · exact mk_write h hO _ _
  · exact mk_shut h hO _
  · exact mk_stop h hO
  · exact h
/-- both pollers, after k steps. -/
def QL (w W : World) (pb n xb x q : Nat) (B : Int) (k : Nat) (N : NS) : Prop :=
  ∃ (F G : List Nat) (L : List Slot) (ds : WL) (D : Nat → Wd) (gv : Value) (hs : List (Int × Int)), PB w W pb n xb x q F G N L ds N L ds.length D gv hs [] ∧ OkN N B ∧ MarkOk N ∧ LR L ds D ∧ (∀ d ∈ L, 0 ≤ d.1 ∧ d.1 ≤ (k : Int)) ∧ L.length ≤ k ∧ ds.length ≤ k ∧ 1 ≤ hs.length ∧ hs.length ≤ k + 1
section
variable {w W W' : World} {pb n xb x q k : Nat} {B : Int} {N : NS}
theorem QL.next (h : QL w W pb n xb x q B k N) (hk : Keeps [] W W') : QL w W' pb n xb x q B k N := by
  obtain ⟨F, G, L, ds, D, gv, hs, h1, h2⟩ := h
  exact ⟨F, G, L, ds, D, gv, hs, h1.next hk, h2⟩
theorem QL.keepsW (h : QL w W pb n xb x q B k N) : Keeps [] w W := by
  obtain ⟨F, G, L, ds, D, gv, hs, h1, h2⟩ := h
  exact h1.kp
theorem asks_Q (h : QL w W pb n xb x q B k N) (hk : k ≤ 1000) (a : PAct) (hpv : CellsIn w [] a.pv (a.ps.map (.int .i64))) (hps : a.ps.length ≤ 1099511627776) :
    Calls Try.prog 67 #[.pointer (some ⟨q, 0, none⟩), .agg (actA a.k a.c a.n a.r a.u a.e a.pv)] W fun e w' => e = .returned (.bool true) ∧ QL w w' pb n xb x q B (k + 1) N := by
  obtain ⟨kd, c, m, r, u, b, pv, ps⟩ := a
  obtain ⟨F, G, L, ds, D, gv, hs, h1, h2, h3, h4, h5, h6, h7, h8, h9⟩ := h
  simp only at hpv hps ⊢
  have g5 : ∀ d ∈ L, 0 ≤ d.1 ∧ d.1 ≤ ((k + 1 : Nat) : Int) := fun d hd => ⟨(h5 d hd).1, by have := (h5 d hd).2; omega⟩
  by_cases k1 : kd = 1
  · subst k1
    refine (asks_1 w W pb n xb x q F G N L ds D gv hs c m r u b pv h1 h4 h8 k hk h5 h6 h7 h9).mono ?_
    rintro e w' ⟨rfl, F1, G1, L1, ds1, D1, gv1, hs1, e1, e2, e3, e4, e5, e6⟩
    exact ⟨rfl, F1, G1, L1, ds1, D1, gv1, hs1, e6, h2, h3, e1, e2, e3, e4, by omega, by omega⟩
  by_cases k2 : kd = 2
  · subst k2
    refine (asks_2 w W pb n xb x q F G N L ds D gv hs c m r u b pv h1 h4 h8).mono ?_
    rintro e w' ⟨rfl, F1, G1, ds1, D1, e1, e2, e3⟩
    rw [← e2] at e3
    exact ⟨rfl, F1, G1, L, ds1, D1, gv, hs, e3, h2, h3, e1, g5, by omega, by omega, h8, by omega⟩
  by_cases k3 : kd = 3
  · subst k3
    refine (asks_3 w W pb n xb x q F G N L ds D gv hs c m r u b pv h1 h4 h8 (by omega) (fun d hd => ⟨(h5 d hd).1, by have := (h5 d hd).2; omega⟩)).mono ?_
    rintro e w' ⟨rfl, F1, G1, L1, ds1, D1, e1, e2, e3, e4, e5⟩
    exact ⟨rfl, F1, G1, L1, ds1, D1, gv, hs, e5, h2, h3, e1, e2 _ g5, by omega, by omega, h8, by omega⟩
  by_cases k4 : kd = 4
  · subst k4
    refine (asks_4 w W pb n xb x q F G N L ds D gv hs c m r u b pv h1 h4 h8 ps (fun F hF => hpv.old hF) hps (by omega) h3).mono ?_
    rintro e w' ⟨rfl, F1, G1, ds1, D1, e1, e2, e3⟩
    rw [← e2] at e3
    exact ⟨rfl, F1, G1, L, ds1, D1, gv, hs, e3, h2, h3, e1, g5, by omega, by omega, h8, by omega⟩
  refine (asks_kd w W pb n xb x q F G N L ds D gv hs c m r u b pv h1 h4 h8 kd k1 k2 k3 k4).mono ?_
  rintro e w' ⟨rfl, F1, G1, e1⟩
  exact ⟨rfl, F1, G1, L, ds, D, gv, hs, e1, h2, h3, h4, g5, by omega, by omega, h8, by omega⟩
theorem wire_Q (h : QL w W pb n xb x q B k N) (hB : B ≤ 1099511627776) (hB0 : 0 ≤ B) (a : PAct) :
    Calls Try.prog 68 #[.pointer (some ⟨q, 0, none⟩), .agg (actA a.k a.c a.n a.r a.u a.e a.pv)] W fun e w' => e = .returned (.tuple #[]) ∧ ∃ N', QL w w' pb n xb x q (B + 1024) k N' := by
  obtain ⟨kd, c, m, r, u, b, pv, ps⟩ := a
  obtain ⟨F, G, L, ds, D, gv, hs, h1, h2, h3, h4, h5⟩ := h
  simp only
  have main : Calls Try.prog 68 #[.pointer (some ⟨q, 0, none⟩), .agg (actA kd c m r u b pv)] W fun e w' => e = .returned (.tuple #[]) ∧ ∃ F1 G1, PB w w' pb n xb x q F1 G1 (wireN kd N c m) L ds (wireN kd N c m) L ds.length D gv hs [] := by
    by_cases k5 : kd = 5
    · subst k5; exact wire_5 w W pb n xb x q F G N L ds L ds.length D gv hs B c m r u b pv h1 h2 hB
    by_cases k6 : kd = 6
    · subst k6; exact wire_6 w W pb n xb x q F G N L ds L ds.length D gv hs B c m r u b pv h1 h2 hB
    by_cases k7 : kd = 7
    · subst k7; exact wire_7 w W pb n xb x q F G N L ds L ds.length D gv hs B c m r u b pv h1 h2 hB
    by_cases k8 : kd = 8
    · subst k8; exact wire_8 w W pb n xb x q F G N L ds L ds.length D gv hs B c m r u b pv h1 h2 hB
    by_cases k9 : kd = 9
    · subst k9; exact wire_9 w W pb n xb x q F G N L ds L ds.length D gv hs B c m r u b pv h1 h2 hB
    by_cases k10 : kd = 10
    · subst k10; exact wire_10 w W pb n xb x q F G N L ds L ds.length D gv hs B c m r u b pv h1 h2 hB
    by_cases k11 : kd = 11
    · subst k11; exact wire_11 w W pb n xb x q F G N L ds L ds.length D gv hs B c m r u b pv h1 h2 hB
    by_cases k12 : kd = 12
    · subst k12; exact wire_12 w W pb n xb x q F G N L ds L ds.length D gv hs B c m r u b pv h1 h2 hB
    by_cases k13 : kd = 13
    · subst k13; exact wire_13 w W pb n xb x q F G N L ds L ds.length D gv hs B c m r u b pv h1 h2 hB
    by_cases k14 : kd = 14
    · subst k14; exact wire_14 w W pb n xb x q F G N L ds L ds.length D gv hs B c m r u b pv h1 h2 hB
    by_cases k15 : kd = 15
    · subst k15; exact wire_15 w W pb n xb x q F G N L ds L ds.length D gv hs B c m r u b pv h1 h2 hB
    exact wire_no w W pb n xb x q F G N L ds L ds.length D gv hs kd c m r u b pv h1 k5 k6 k7 k8 k9 k10 k11 k12 k13 k14 k15
  refine main.mono ?_
  rintro e w' ⟨rfl, F1, G1, h6⟩
  exact ⟨rfl, _, F1, G1, L, ds, D, gv, hs, h6, wireN_ok h2 hB0 kd c m, wireN_mk h3 h2 kd c m, h4, h5⟩
end
end Go.Proofs.Ytkeffebcmajhmaa
/- PollPlays: both pollers as they begin. -/
namespace Go.Proofs.Ytkeffebcmajhmaa
open Go.RowKit
set_option linter.unusedVariables false
set_option linter.unusedSimpArgs false
theorem ponew_P (w : World) (n : Nat) (Fn : List Nat) (N : NS) (h : NRep pc w n Fn N) :
    Calls Try.prog 51 #[.pointer (some ⟨n, 0, none⟩)] w fun e w' => ∃ pb F, e = .returned (.tuple #[.pointer (some ⟨pb, 0, none⟩), .int .i64 0]) ∧ PRep w' pb n F N [] [] ∧ (∀ k ∈ F, k ∈ Fn ∨ w.heap.size ≤ k) ∧ Keeps [] w w' := by
  refine (ponew_ok n Fn N w h).mono ?_
  rintro e w' ⟨pb, s, m, rfl, hp, h1, h2, h3, h4⟩
  refine ⟨pb, _, rfl, ⟨s, m, Fn, [s], [], 0, hp, rfl, rfl⟩, fun k hx => ?_, h4⟩
  simp at hx
  rcases hx with rfl | rfl | hx | rfl
  · exact .inr h1
  · exact .inr h3
  · exact .inl hx
  · exact .inr h2
/-- both, before the pair is. -/
def P2 (w W : World) (pb n xb x : Nat) (N : NS) : Prop :=
  ∃ F G D, PRep W pb n F N [] [] ∧ RPRep W xb x G N [] 0 D ∧ (∀ k ∈ F, w.heap.size ≤ k) ∧ (∀ k ∈ G, w.heap.size ≤ k) ∧ (∀ k ∈ F, k ∉ G) ∧ Keeps [] w W
theorem P2.start {w w1 w2 w3 w4 : World} {pb xb : Nat} {N : NS} {F G : List Nat} {D : Nat → Wd} (k1 : Keeps [] w w1) (hn : NRep pc w1 w.heap.size [w.heap.size] N) (k2 : Keeps [] w1 w2) (hx : NRep rc w2 w1.heap.size [w1.heap.size] N) (k3 : Keeps [] w2 w3) (hp : PRep w3 pb w.heap.size F N [] [])
    (hF : ∀ k ∈ F, k ∈ [w.heap.size] ∨ w2.heap.size ≤ k) (k4 : Keeps [] w3 w4) (hr : RPRep w4 xb w1.heap.size G N [] 0 D) (hG : ∀ k ∈ G, k ∈ [w1.heap.size] ∨ w3.heap.size ≤ k) : P2 w w4 pb w.heap.size xb w1.heap.size N := by
  have z1 := k1.size
  have z2 := k2.size
  have z3 := k3.size
  have l1 := hn.flt _ hn.mem
  have l2 := hx.flt _ hx.mem
  have lF := hp.flt
  refine ⟨F, G, D, hp.keeps k4 (by simp), hr, fun k hk => ?_, fun k hk => ?_, fun k hk hg => ?_, ((k1.trans k2 (by simp)).trans k3 (by simp)).trans k4 (by simp)⟩
  · have := hF k hk
    simp at this
    omega
  · have := hG k hk
    simp at this
    omega
  · have h1 := hF k hk
    have h2 := hG k hg
    have h3 := lF k hk
    simp at h1 h2
    omega
theorem P2.next {w W W' : World} {pb n xb x : Nat} {N : NS} (h : P2 w W pb n xb x N) (hk : Keeps [] W W') : P2 w W' pb n xb x N := by
  obtain ⟨F, G, D, h1, h2, h3, h4, h5, h6⟩ := h
  exact ⟨F, G, D, h1.keeps hk (by simp), h2.keeps hk (by simp), h3, h4, h5, h6.trans hk (by simp)⟩
theorem P2.cells {w W : World} {pb n xb x : Nat} {N : NS} (h : P2 w W pb n xb x N) : W.cell? ⟨pb, 0, none⟩ = some (.pointer (some ⟨n, 0, none⟩)) ∧ W.cell? ⟨xb, 0, none⟩ = some (.pointer (some ⟨x, 0, none⟩)) := by
  obtain ⟨F, G, D, ⟨s, m, Fn, Fs, es, clock, hp, -, -⟩, h2, h3, h4, h5, h6⟩ := h
  have h3 := hp.blk.cell 0
  simp [pcells] at h3
  exact ⟨h3, h2.cells.1⟩
theorem P2.begin {w W W' : World} {pb n xb x q a : Nat} {b : Int} (h : P2 w W pb n xb x (newN b)) (b1 : 1 ≤ b) (b2 : b ≤ 64) (hk : Keeps [] W W') (hb : Blk W' q 124 #[.pointer (some ⟨pb, 0, none⟩), .pointer (some ⟨xb, 0, none⟩), .slice (some ⟨a, 0, none⟩) 1 1])
    (ha : Blk W' a 30 #[.int .i64 0, .int .i64 0]) (hq : W.heap.size ≤ q) (hqa : W.heap.size ≤ a) : QL w W' pb n xb x q 0 0 (newN b) := by
  obtain ⟨F, G, D, h1, h2, h3, h4, h5, h6⟩ := h
  have z := h6.size
  have l1 := h1.flt
  have l2 := h2.flt
  have far : ∀ j, W.heap.size ≤ j → w.heap.size ≤ j ∧ j ∉ F ∧ j ∉ G := fun j hj => ⟨by omega, fun hx => by have := l1 j hx; omega, fun hx => by have := l2 j hx; omega⟩
  have hrow : Row W' 30 2 (.slice (some ⟨a, 0, none⟩) 1 1) [((0 : Int), (0 : Int))].length (handlesV [(0, 0)]) :=
    ⟨by simp [handlesV], .inr ⟨a, 0, 1, _, rfl, ha, by simp, by simp [maxLen], by simp, by simp [handlesV]⟩⟩
  refine ⟨F, G, [], [], D, _, [(0, 0)], ⟨h1.keeps hk (by simp), h2.keeps hk (by simp), h3, h4, h5, h6.trans hk (by simp), hb, hrow, (far q hq).1, (far q hq).2.1, (far q hq).2.2, fun j hj => ?_, by simp⟩, okN_new b b1 b2, markOk_new b, lr_nil D, by simp, by simp, by simp, by simp, by simp⟩
  simp [Value.ownBlock] at hj
  subst hj
  exact far _ hqa
section
variable {w W W' : World} {pb n xb x q k : Nat} {B : Int} {N : NS}
/-- what the law reads of both. -/
theorem QL.len (h : QL w W pb n xb x q B k N) : ∃ (s : Nat) (v : Int), W.cell? ⟨xb, 1, none⟩ = some (.pointer (some ⟨s, 0, none⟩)) ∧ W.cell? ⟨s, 4, none⟩ = some (.int .i64 v) ∧
    ∀ W', Keeps [] W W' → Calls Try.prog 55 #[.pointer (some ⟨pb, 0, none⟩)] W' fun e w' => e = .returned (.int .i64 v) ∧ Keeps [] W' w' := by
  obtain ⟨F, G, L, ds, D, gv, hs, h1, h2⟩ := h
  obtain ⟨-, s, e1, e2⟩ := h1.ref.cells
  exact ⟨s, _, e1, e2, fun W' hk => watched_any pb n F N L ds W' (h1.prog.keeps hk (by simp))⟩
/-- the last Wait of the program's is told. -/
def WQ (w W : World) (xb x : Nat) (v : Value) (ES : List Ev) : Prop :=
  ∃ (G : List Nat) (N : NS) (L : List Slot) (c : Int) (D : Nat → Wd), RPRep W xb x G N L c D ∧ (∀ k ∈ G, w.heap.size ≤ k) ∧ Keeps [] w W ∧ EvIn W G v ES ∧ ES = pickE [] (evsR N L D) ∧ L.length ≤ 1099511627776
theorem wait_Q (h : QL w W pb n xb x q B k N) (hk : k ≤ 1000) :
    Calls Try.prog 54 #[.pointer (some ⟨pb, 0, none⟩), .slice none 0 0] W fun e w' => ∃ v ES, e = .returned v ∧ WQ w w' xb x v ES := by
  obtain ⟨F, G, L, ds, D, gv, hs, h1, h2, h3, h4, h5, h6, h7⟩ := h
  refine (wait_any pb n F N L ds (.slice none 0 0) [] W h1.prog (by omega) (CellsIn.nil W F)).mono ?_
  rintro e w' ⟨v, rfl, hev, hr, hkp, ho⟩
  have h8 := h1.pstep hr (fun j hj => .inl hj) hkp
  rw [lr_evs h4 h3] at hev
  refine ⟨v, _, rfl, G, N, L, _, D, h8.ref, h8.gl, h8.kp, ?_, rfl, by omega⟩
  obtain ⟨A, c0, hv, g1, g2, g3⟩ := hev
  refine ⟨A, c0, hv, g1, g2, fun hp => ?_⟩
  obtain ⟨bb, oo, hA, -, hc⟩ := g3 hp
  refine ⟨bb, oo, hA, fun hx => ?_, hc⟩
  have e1 := ho bb (by rw [hv, hA]; rfl)
  have e2 := h1.ref.flt bb hx
  omega
theorem rwait_Q {v : Value} {ES : List Ev} (h : WQ w W xb x v ES) :
    Calls Try.prog 70 #[.pointer (some ⟨xb, 0, none⟩), .slice none 0 0] W fun e w' => ∃ v2, e = .returned v2 ∧ EvIn w' [] v ES ∧ EvIn w' [] v2 ES ∧ Keeps [] w w' := by
  obtain ⟨G, N, L, c, D, h1, h2, h3, h4, h5, h6⟩ := h
  refine (rwait_any xb x G N L c D (.slice none 0 0) [] W h1 h6 (CellsIn.nil W G) (by simp)).mono ?_
  rintro e w' ⟨v2, rfl, hev, hr, hkp, ho⟩
  rw [← h5] at hev
  exact ⟨v2, rfl, (h4.keeps hkp (fun j hj => .inl hj)).mono (by simp), hev.mono (by simp), h3.trans hkp (fun j hj => .inr (h2 j hj))⟩
end
end Go.Proofs.Ytkeffebcmajhmaa
