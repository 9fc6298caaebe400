/- A script of the slab's laws that came in, opened. -/
import Derived.Test.YtkeffebcmajhmaaSlabSt
import Derived.Deep.Slices
import Derived.Deep.Fields
import Derived.ChangeSame
namespace Go.Proofs.Ytkeffebcmajhmaa
open Go.RowKit Go.Deep Go.ChangeShapes Go.WideShapes
set_option linter.unusedVariables false
theorem take1_get {α : Type} {cs : List α} {j : Nat} {v : α} (h : (cs.drop j).take 1 = [v]) : cs[j]? = some v := by
  have h1 := congrArg (fun l : List α => l[0]?) h
  simpa using h1
theorem choose_lt' {α : Type} [Inhabited α] {n : Nat} {p : Nat → α → Prop} (h : ∀ i, i < n → ∃ a, p i a) : ∃ f : Nat → α, ∀ i, i < n → p i (f i) :=
  ⟨fun i => if hi : i < n then Classical.choose (h i hi) else default, fun i hi => by
    simp only [dif_pos hi]
    exact Classical.choose_spec (h i hi)⟩
theorem sacts_open {H : Type} {enc : TypeId × Value → H} {P : Program} {w : World} {base : Nat} {held : Bool} {t e ti q : TypeId} {f0 f1 f2 f3 g0 g1 : Field} {fuel : Nat} {v : Value} {x : DataW H × List MemPlace}
    (ht : P.underlying t = some (.slice e)) (he : P.underlying e = some (.struct #[f0, f1, f2, f3])) (hq : P.underlying q = some (.struct #[g0, g1])) (hC : P.cellsOf e = 5) (hi : P.underlying ti = some (.int .i64)) (c1 : P.cellsOf ti = 1) (c2 : P.cellsOf q = 2)
    (e0 : f0.type = ti) (e1 : f1.type = ti) (e2 : f2.type = ti) (e3 : f3.type = q) (o0 : f0.offset = 0) (o1 : f1.offset = 1) (o2 : f2.offset = 2) (o3 : f3.offset = 3)
    (d0 : g0.type = ti) (d1 : g1.type = ti) (p0 : g0.offset = 0) (p1 : g1.offset = 1)
    (h : DataW.trod enc P w base (fun _ => true) held fuel t [v] = some x) : ∃ l : List SAct, SActsIn w v l := by
  rcases open_slice ht h with ⟨hcs, -⟩ | ⟨a, len, cap, m, n, D, Pl, hcs, -, hl, hm, hmm, hx, hr⟩
  · injection hcs with hcs _
    subst hcs
    exact ⟨[], none, 0, rfl, by simp, by simp [maxLen], by simp⟩
  · injection hcs with hcs _
    subst hcs
    simp only [if_true] at hmm
    subst hmm
    have each : ∀ i, i < m → ∃ d : SAct, w.cell? (a.add (i * 5)) = some (.int .i64 d.k) ∧ w.cell? (a.add (i * 5 + 1)) = some (.int .i64 d.n) ∧ w.cell? (a.add (i * 5 + 2)) = some (.int .i64 d.kk) ∧ w.cell? (a.add (i * 5 + 3)) = some (.int .i64 d.i) ∧ w.cell? (a.add (i * 5 + 4)) = some (.int .i64 d.g) := by
      intro i him
      obtain ⟨cs', hc, ht'⟩ := hr i him
      rw [hC] at hc
      obtain ⟨ys, n', hn', hy, hlen, hyl, hf⟩ := DataW.trod_struct he ht'
      obtain ⟨_, hcl, hat⟩ := World.cells?_some hc
      have get : ∀ j, j < 5 → w.cell? (a.add (i * 5 + j)) = cs'[j]? := fun j hj => by
        rw [← Go.Deep.add_add]
        exact hat j hj
      have y0 : ys[0]? = some (ys[0]'(by rw [hyl]; simp)) := List.getElem?_eq_getElem _
      have y1 : ys[1]? = some (ys[1]'(by rw [hyl]; simp)) := List.getElem?_eq_getElem _
      have y2 : ys[2]? = some (ys[2]'(by rw [hyl]; simp)) := List.getElem?_eq_getElem _
      have y3 : ys[3]? = some (ys[3]'(by rw [hyl]; simp)) := List.getElem?_eq_getElem _
      have t0 := hf 0 f0 rfl
      have t1 := hf 1 f1 rfl
      have t2 := hf 2 f2 rfl
      have t3 := hf 3 f3 rfl
      rw [e0, o0, c1] at t0
      rw [e1, o1, c1] at t1
      rw [e2, o2, c1] at t2
      rw [e3, o3, c2] at t3
      obtain ⟨k0, hk0, -, -⟩ := DataW.trod_int hi (t0.trans y0)
      obtain ⟨k1, hk1, -, -⟩ := DataW.trod_int hi (t1.trans y1)
      obtain ⟨k2, hk2, -, -⟩ := DataW.trod_int hi (t2.trans y2)
      obtain ⟨zs, n2, hn2, hz, hzlen, hzl, hg⟩ := DataW.trod_struct hq (t3.trans y3)
      have z0 : zs[0]? = some (zs[0]'(by rw [hzl]; simp)) := List.getElem?_eq_getElem _
      have z1 : zs[1]? = some (zs[1]'(by rw [hzl]; simp)) := List.getElem?_eq_getElem _
      have s0 := hg 0 g0 rfl
      have s1 := hg 1 g1 rfl
      rw [d0, p0, c1] at s0
      rw [d1, p1, c1] at s1
      obtain ⟨k3, hk3, -, -⟩ := DataW.trod_int hi (s0.trans z0)
      obtain ⟨k4, hk4, -, -⟩ := DataW.trod_int hi (s1.trans z1)
      have q0 := take1_get hk0
      have q1 := take1_get hk1
      have q2 := take1_get hk2
      have q3 := take1_get hk3
      have q4 := take1_get hk4
      rw [List.getElem?_take] at q3 q4
      simp at q3 q4
      refine ⟨⟨k0, k1, k2, k3, k4⟩, ?_, ?_, ?_, ?_, ?_⟩
      · have h1 := get 0 (by omega)
        rw [Nat.add_zero] at h1
        rw [h1, q0]
      · rw [get 1 (by omega), q1]
      · rw [get 2 (by omega), q2]
      · rw [get 3 (by omega)]
        exact q3
      · rw [get 4 (by omega)]
        exact q4
    obtain ⟨d, hd⟩ := choose_lt' each
    refine ⟨(List.range len).map d, some a, m, by simp, by simpa using hl, hm, fun hp => ?_⟩
    simp at hp
    obtain ⟨b, o, spot⟩ := a
    have h0 := (hd 0 (by omega)).1
    have hspot : spot = none := by simpa [Addr.add] using World.cell?_spot h0
    subst hspot
    refine ⟨b, o, rfl, fun j y hy => ?_⟩
    have hj : j < len := by
      have := (List.getElem?_eq_some_iff.1 hy).1
      simpa using this
    have hyd : d j = y := by simpa [hj] using hy
    subst hyd
    obtain ⟨r0, r1, r2, r3, r4⟩ := hd j (by omega)
    rw [Addr.add_lit] at r0 r1 r2 r3 r4
    simp only [← Nat.add_assoc] at r1 r2 r3 r4
    exact ⟨r0, r1, r2, r3, r4⟩
end Go.Proofs.Ytkeffebcmajhmaa
