/- A script of the net that came in: its acts, opened. -/
import Derived.Test.YtkeffebcmajhmaaOpenUpto
import Derived.Test.YtkeffebcmajhmaaRn11
import Derived.Deep.Slices
import Derived.Deep.Fields
import Derived.ChangeSame
namespace Go.Proofs.Ytkeffebcmajhmaa
open Go.RowKit Go.Deep Go.ChangeShapes Go.WideShapes
section
variable {H : Type} {enc : TypeId × Value → H} {P : Program} {w : World} {base : Nat} {spare : Nat → Bool} {held : Bool}
theorem open_slice_fields {t e : TypeId} {fs : Array Field} {fuel : Nat} {cs : List Value} {x : DataW H × List MemPlace} (ht : P.underlying t = some (.slice e)) (he : P.underlying e = some (.struct fs))
    (hone : oneCellFields P fs = true) (hC : P.cellsOf e = fs.size) (h : DataW.trod enc P w base spare held fuel t cs = some x) :
    (cs = [.slice none 0 0] ∧ x = (.nil, [])) ∨
    ∃ (a : Addr) (len cap m : Nat) (D : Nat → DataW H) (Pl : Nat → List MemPlace), cs = [.slice (some a) len cap] ∧ base ≤ a.block ∧ len ≤ cap ∧ cap ≤ maxLen ∧ m = (if spare a.block then cap else len) ∧
      x = (.slice ((List.range len).map D) ((List.range (m - len)).map fun j => D (len + j)), MemPlace.row a (m * fs.size) ++ (List.range m).flatMap Pl) ∧
      ∀ i, i < m → ∃ (ys : List (DataW H × List MemPlace)) (n : Nat), D i = .agg (ys.map (·.1)) ∧ Pl i = ys.flatMap (·.2) ∧ ys.length = fs.size ∧
        ∀ (j : Nat) (f : Field), fs[j]? = some f → ∃ (v : Value) (y : DataW H × List MemPlace), w.cell? (a.add (i * fs.size + j)) = some v ∧ ys[j]? = some y ∧ DataW.trod enc P w base spare held n f.type [v] = some y := by
  rcases open_slice ht h with h0 | ⟨a, len, cap, m, n, D, Pl, hcs, hb, hl, hm, hmm, hx, hi⟩
  · exact .inl h0
  · refine .inr ⟨a, len, cap, m, D, Pl, hcs, hb, hl, hm, hmm, by rw [hC] at hx; exact hx, fun i him => ?_⟩
    obtain ⟨cs', hc, ht'⟩ := hi i him
    rw [hC] at hc
    obtain ⟨ys, n', hn', hy, hlen, hyl, hf⟩ := DataW.trod_struct he ht'
    obtain ⟨_, hcl, hat⟩ := World.cells?_some hc
    simp only [Prod.mk.injEq] at hy
    refine ⟨ys, n', hy.1, hy.2, hyl, fun j f hj => ?_⟩
    obtain ⟨ho, hk⟩ := hone_of hone j f hj
    have hjl : j < fs.size := (Array.getElem?_eq_some_iff.1 hj).1
    have hcell := hat j hjl
    have hv : cs'[j]? = some (cs'[j]'(by omega)) := List.getElem?_eq_getElem (by omega)
    have h1 := hf j f hj
    rw [ho, hk] at h1
    have hone' : (cs'.drop j).take 1 = [cs'[j]'(by omega)] := by
      rw [List.drop_eq_getElem_cons (by omega)]
      rfl
    rw [hone'] at h1
    have hys : ys[j]? = some (ys[j]'(by omega)) := List.getElem?_eq_getElem (by omega)
    refine ⟨_, _, ?_, hys, h1.trans hys⟩
    rw [← Go.Deep.add_add, hcell, hv]
end
structure NAct where
  k : Int
  c : Int
  n : Int
  bv : Value
  b : List Int
  av : Value
  a : List Int
instance : Inhabited NAct := ⟨⟨0, 0, 0, .slice none 0 0, [], .slice none 0 0, []⟩⟩
/-- v is a script. -/
def NActsIn (w : World) (v : Value) (l : List NAct) : Prop :=
  ∃ A cap, v = .slice A l.length cap ∧ l.length ≤ cap ∧ cap ≤ maxLen ∧ (0 < l.length → ∃ b o, A = some ⟨b, o, none⟩ ∧ ∀ j a, l[j]? = some a →
    w.cell? ⟨b, o + j * 5, none⟩ = some (.int .i64 a.k) ∧ w.cell? ⟨b, o + j * 5 + 1, none⟩ = some (.int .i64 a.c) ∧ w.cell? ⟨b, o + j * 5 + 2, none⟩ = some (.int .i64 a.n) ∧ w.cell? ⟨b, o + j * 5 + 3, none⟩ = some a.bv ∧ w.cell? ⟨b, o + j * 5 + 4, none⟩ = some a.av) ∧
  ∀ a ∈ l, CellsIn w [] a.bv (a.b.map (.int .u8)) ∧ CellsIn w [] a.av (a.a.map (.int .u8)) ∧ -9223372036854775808 ≤ a.n ∧ a.n ≤ 9223372036854775807
theorem NActsIn.keeps {w w' : World} {v : Value} {l : List NAct} (h : NActsIn w v l) (hk : Keeps [] w w') : NActsIn w' v l := by
  obtain ⟨A, cap, hv, h1, h2, h3, h4⟩ := h
  refine ⟨A, cap, hv, h1, h2, fun hp => ?_, fun a ha => ⟨(h4 a ha).1.keeps hk (by simp), (h4 a ha).2.1.keeps hk (by simp), (h4 a ha).2.2⟩⟩
  obtain ⟨b, o, hA, hc⟩ := h3 hp
  refine ⟨b, o, hA, fun j a hj => ?_⟩
  obtain ⟨c0, c1, c2, c3, c4⟩ := hc j a hj
  exact ⟨cell_keep hk (by simp) c0, cell_keep hk (by simp) c1, cell_keep hk (by simp) c2, cell_keep hk (by simp) c3, cell_keep hk (by simp) c4⟩
theorem NActsIn.shape {w : World} {v : Value} {l : List NAct} (h : NActsIn w v l) : ∃ A c, v = .slice A l.length c ∧ l.length ≤ c ∧ c ≤ 9223372036854775807 := by
  obtain ⟨A, c, hv, h1, h2, h3⟩ := h
  exact ⟨A, c, hv, h1, by unfold maxLen at h2; omega⟩
theorem NActsIn.at_ {w : World} {A : Option Addr} {n c : Nat} {l : List NAct} (h : NActsIn w (.slice A n c) l) (hn : 0 < l.length) :
    ∃ b o, A = some ⟨b, o, none⟩ ∧ ∀ j a, l[j]? = some a →
      w.cell? ⟨b, o + j * 5, none⟩ = some (.int .i64 a.k) ∧ w.cell? ⟨b, o + j * 5 + 1, none⟩ = some (.int .i64 a.c) ∧ w.cell? ⟨b, o + j * 5 + 2, none⟩ = some (.int .i64 a.n) ∧ w.cell? ⟨b, o + j * 5 + 3, none⟩ = some a.bv ∧ w.cell? ⟨b, o + j * 5 + 4, none⟩ = some a.av := by
  obtain ⟨A', c', hv, h1, h2, h3, -⟩ := h
  injection hv with hA
  subst hA
  exact h3 hn
theorem NActsIn.rows {w : World} {v : Value} {l : List NAct} (h : NActsIn w v l) (a : NAct) (ha : a ∈ l) : CellsIn w [] a.bv (a.b.map (.int .u8)) ∧ CellsIn w [] a.av (a.a.map (.int .u8)) ∧ -9223372036854775808 ≤ a.n ∧ a.n ≤ 9223372036854775807 := by
  obtain ⟨_, _, _, _, _, _, h4⟩ := h
  exact h4 a ha
theorem ints_upto {H : Type} {enc : TypeId × Value → H} {P : Program} {w : World} {base : Nat} {held : Bool} {t e : TypeId} {k : IntKind} {fuel : Nat} {v : Value} {x : DataW H × List MemPlace}
    (ht : P.underlying t = some (.slice e)) (he : P.underlying e = some (.int k)) (ce : P.cellsOf e = 1)
    (h : DataW.trod enc P w base (fun _ => true) held fuel t [v] = some x) : ∃ zs : List Int, CellsIn w [] v (zs.map (.int k)) ∧ zs.length ≤ Rows.uptoBulk x.1 := by
  rcases open_ints ht he ce h with ⟨hcs, -⟩ | ⟨a, len, cap, zs, hcs, -, hl, hm, hz, hx, hcell, -⟩
  · injection hcs with hcs _
    subst hcs
    exact ⟨[], CellsIn.nil w [], by simp⟩
  · injection hcs with hcs _
    subst hcs
    simp only [if_true] at hz
    refine ⟨zs.take len, CellsIn.of_open hl hm hz hcell, ?_⟩
    rw [hx]
    simp only [Rows.uptoBulk, bulk_lits, List.length_take, List.length_drop]
    omega
theorem wf_i64 {x : Int} (h : (Lit.int .i64 x).wf = true) : -9223372036854775808 ≤ x ∧ x ≤ 9223372036854775807 := by
  simp [Lit.wf, IntKind.min, IntKind.max, IntKind.bits, IntKind.signed] at h
  omega
/-- a script that came in, its rows bounded by its bulk. -/
theorem nacts_upto {H : Type} {enc : TypeId × Value → H} {P : Program} {w : World} {base : Nat} {held : Bool} {t e q b ti : TypeId} {f0 f1 f2 f3 f4 : Field} {fuel : Nat} {v : Value} {x : DataW H × List MemPlace}
    (ht : P.underlying t = some (.slice e)) (he : P.underlying e = some (.struct #[f0, f1, f2, f3, f4])) (hone : oneCellFields P #[f0, f1, f2, f3, f4] = true) (hC : P.cellsOf e = 5)
    (e0 : f0.type = ti) (e1 : f1.type = ti) (e2 : f2.type = ti) (e3 : f3.type = q) (e4 : f4.type = q) (hi : P.underlying ti = some (.int .i64)) (hq : P.underlying q = some (.slice b)) (hb : P.underlying b = some (.int .u8)) (cb : P.cellsOf b = 1)
    (h : DataW.trod enc P w base (fun _ => true) held fuel t [v] = some x) :
    ∃ l : List NAct, NActsIn w v l ∧ ∀ a ∈ l, a.b.length ≤ Rows.uptoBulk x.1 ∧ a.a.length ≤ Rows.uptoBulk x.1 := by
  rcases open_slice_fields ht he hone hC h with ⟨hcs, -⟩ | ⟨a, len, cap, m, D, Pl, hcs, -, hl, hm, hmm, hx, hr⟩
  · injection hcs with hcs _
    subst hcs
    exact ⟨[], ⟨none, 0, rfl, by simp, by simp [maxLen], by simp, by simp⟩, by simp⟩
  · injection hcs with hcs _
    subst hcs
    simp only [if_true] at hmm
    subst hmm
    have each : ∀ i, i < m → ∃ d : NAct, w.cell? (a.add (i * 5)) = some (.int .i64 d.k) ∧ w.cell? (a.add (i * 5 + 1)) = some (.int .i64 d.c) ∧ w.cell? (a.add (i * 5 + 2)) = some (.int .i64 d.n) ∧ w.cell? (a.add (i * 5 + 3)) = some d.bv ∧ w.cell? (a.add (i * 5 + 4)) = some d.av ∧
        CellsIn w [] d.bv (d.b.map (.int .u8)) ∧ CellsIn w [] d.av (d.a.map (.int .u8)) ∧ (-9223372036854775808 ≤ d.n ∧ d.n ≤ 9223372036854775807) ∧ d.b.length ≤ Rows.uptoBulk (D i) ∧ d.a.length ≤ Rows.uptoBulk (D i) := by
      intro i him
      obtain ⟨ys, n, hD, -, hyl, hf⟩ := hr i him
      obtain ⟨v0, y0, c0, h0, t0⟩ := hf 0 f0 rfl
      obtain ⟨v1, y1, c1, h1, t1⟩ := hf 1 f1 rfl
      obtain ⟨v2, y2, c2, h2, t2⟩ := hf 2 f2 rfl
      obtain ⟨v3, y3, c3, h3, t3⟩ := hf 3 f3 rfl
      obtain ⟨v4, y4, c4, h4, t4⟩ := hf 4 f4 rfl
      rw [e0] at t0
      rw [e1] at t1
      rw [e2] at t2
      rw [e3] at t3
      rw [e4] at t4
      obtain ⟨k0, hk0, -, -⟩ := DataW.trod_int hi t0
      obtain ⟨k1, hk1, -, -⟩ := DataW.trod_int hi t1
      obtain ⟨k2, hk2, -, hw2⟩ := DataW.trod_int hi t2
      injection hk0 with hk0 _
      injection hk1 with hk1 _
      injection hk2 with hk2 _
      subst hk0 hk1 hk2
      obtain ⟨z3, r3, b3⟩ := ints_upto hq hb cb t3
      obtain ⟨z4, r4, b4⟩ := ints_upto hq hb cb t4
      have m3 := bulk_mem (ys.map (·.1)) y3.1 (List.mem_map.2 ⟨y3, List.mem_of_getElem? h3, rfl⟩)
      have m4 := bulk_mem (ys.map (·.1)) y4.1 (List.mem_map.2 ⟨y4, List.mem_of_getElem? h4, rfl⟩)
      refine ⟨⟨k0, k1, k2, v3, z3, v4, z4⟩, c0, c1, c2, c3, c4, r3, r4, wf_i64 hw2, ?_, ?_⟩
      · rw [hD]
        simp only [Rows.uptoBulk]
        omega
      · rw [hD]
        simp only [Rows.uptoBulk]
        omega
    obtain ⟨d, hd⟩ := choose_lt each
    refine ⟨(List.range len).map d, ⟨some a, m, by simp, by simpa using hl, hm, fun hp => ?_, fun x hx => ?_⟩, fun x hx' => ?_⟩
    · simp at hp
      obtain ⟨b, o, spot⟩ := a
      have h0 := (hd 0 (by omega)).1
      have hspot : spot = none := by simpa [Addr.add] using World.cell?_spot h0
      subst hspot
      refine ⟨b, o, rfl, fun j y hy => ?_⟩
      have hj : j < len := by
        have := (List.getElem?_eq_some_iff.1 hy).1
        simpa using this
      have hyd : d j = y := by simpa [hj] using hy
      subst hyd
      obtain ⟨c0, c1, c2, c3, c4, -⟩ := hd j (by omega)
      rw [Addr.add_lit] at c0 c1 c2 c3 c4
      simp only [← Nat.add_assoc] at c1 c2 c3 c4
      exact ⟨c0, c1, c2, c3, c4⟩
    · obtain ⟨j, hj, rfl⟩ := List.mem_map.1 hx
      have hj' : j < len := List.mem_range.1 hj
      obtain ⟨-, -, -, -, -, r3, r4, r5, -⟩ := hd j (by omega)
      exact ⟨r3, r4, r5⟩
    · obtain ⟨j, hj, rfl⟩ := List.mem_map.1 hx'
      have hj' : j < len := List.mem_range.1 hj
      obtain ⟨-, -, -, -, -, -, -, -, b2, b3⟩ := hd j (by omega)
      have m1 := bulk_mem ((List.range len).map D) (D j) (List.mem_map.2 ⟨j, hj, rfl⟩)
      rw [hx]
      simp only [Rows.uptoBulk]
      omega
end Go.Proofs.Ytkeffebcmajhmaa
