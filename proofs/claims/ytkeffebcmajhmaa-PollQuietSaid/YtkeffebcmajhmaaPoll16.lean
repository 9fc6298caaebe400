/- The poller: Change and Watched by contract. -/
import Derived.Test.YtkeffebcmajhmaaPoll15
import Derived.BigQuiet
namespace Go.Proofs.Ytkeffebcmajhmaa
open Go.RowKit
set_option linter.unusedVariables false
set_option linter.unusedSimpArgs false
abbrev keyX (x : PX) : Int × Int := (x.1.s, x.1.g)
abbrev dsX (es : List PX) : WL := es.map (fun x => ((x.1.s, x.1.g), x.2))
theorem find_out {es : List PX} {i g : Int} (h : findW (dsX es) (i, g) = none) : ∀ x ∈ es, ¬ (x.1.s = i ∧ x.1.g = g) := by
  intro x hx hc
  unfold findW at h
  cases hf : (dsX es).find? (fun y => y.1 == (i, g)) with
  | none =>
    have := List.find?_eq_none.1 hf ((x.1.s, x.1.g), x.2) (List.mem_map.2 ⟨x, hx, rfl⟩)
    simp [hc.1, hc.2] at this
  | some y => rw [hf] at h; cases h
theorem find_in {es : List PX} {i g : Int} {d : Wd} (h : findW (dsX es) (i, g) = some d) : ∃ x ∈ es, x.1.s = i ∧ x.1.g = g ∧ x.2 = d := by
  unfold findW at h
  cases hf : (dsX es).find? (fun y => y.1 == (i, g)) with
  | none => rw [hf] at h; cases h
  | some y =>
    rw [hf] at h
    have h1 := List.mem_of_find?_eq_some hf
    have h2 := List.find?_some hf
    obtain ⟨z, hz, rfl⟩ := List.mem_map.1 h1
    simp at h2 h
    exact ⟨z, hz, h2.1, h2.2, h⟩
/-- what is asked for has changed. -/
def chgD (a b : Bool) (d : Wd) : Wd := { d with rd := a, wr := b, tr := 0, tm := 0 }
def chgW (ds : WL) (h : Int × Int) (a b : Bool) : WL := ds.map fun x => (x.1, if x.1 = h then chgD a b x.2 else x.2)
def ChangePost (w : World) (pb n : Nat) (F : List Nat) (N : NS) (L : List Slot) (ds : WL) (h : Int × Int) (a b : Bool) (e : Ending) (w' : World) : Prop :=
  (findW ds h = none ∧ e = .returned (.int .i64 10) ∧ Keeps [] w w') ∨ (∃ d, findW ds h = some d) ∧ e = .returned (.int .i64 0) ∧ PRep w' pb n F N L (chgW ds h a b) ∧ Keeps F w w'
set_option maxRecDepth 100000 in
set_option maxHeartbeats 4000000 in
theorem change_any (pb n : Nat) (F : List Nat) (N : NS) (L : List Slot) (ds : WL) (i g : Int) (a b : Bool) (w : World) (h : PRep w pb n F N L ds) :
    Calls Try.prog 52 #[.pointer (some ⟨pb, 0, none⟩), .agg #[.int .i64 i, .int .i64 g], .bool a, .bool b] w (ChangePost w pb n F N L ds (i, g) a b) := by
  obtain ⟨s, m, Fn, Fs, es, clock, h, hds, rfl⟩ := h
  have H := hid h
  have p2 := h.blk.cell 2
  simp [pcells] at p2
  have g2 := fun o => alloc_cell p2 o
  have HDS := hid hds
  cases hf : findW ds (i, g) with
  | none =>
    have hlook : lookE (es.map (·.1)) i g = .pointer none := lookE_none (find_out (by have h9 := hf; rw [hds] at h9; exact h9))
    have hlk : ∀ (j : Nat), (Instr.lookup 91 (.map (some m)) (.agg #[.int .i64 i, .int .i64 g]) false).run Try.prog ((w.alloc (.cells #[.int .i64 i, .int .i64 g] 30)).drewN j) = .ok (.pointer none) ((w.alloc (.cells #[.int .i64 i, .int .i64 g] 30)).drewN j) := fun j => by
      have := run_lookH (h.map.keeps (((Keeps.refl [] w).alloc (.cells #[.int .i64 i, .int .i64 g] 30)).drewN j) (by simp)) i g
      rw [hlook] at this
      exact this
    have HF := hid hf
    clear h hds hlook hf
    go_enter Try.func52, Try.ntmps52
    go_wp2_with fail
    go_quiet (fail)
    go_wp2_with fail
    go_ret
    exact .inl ⟨HF.out, rfl, by (repeat (first | exact Keeps.refl _ _ | apply Keeps.drewN | apply Keeps.drew | apply Keeps.alloc))⟩
  | some d =>
    obtain ⟨x, hx, hx1, hx2, hx3⟩ := find_in (es := es) (by have h9 := hf; rw [hds] at h9; exact h9)
    have hlook : lookE (es.map (·.1)) i g = .pointer (some ⟨x.1.p, 0, none⟩) := by
      have := lookE_in h.kn hx
      rw [hx1, hx2] at this
      exact this
    have hlk : ∀ (j : Nat), (Instr.lookup 91 (.map (some m)) (.agg #[.int .i64 i, .int .i64 g]) false).run Try.prog ((w.alloc (.cells #[.int .i64 i, .int .i64 g] 30)).drewN j) = .ok (.pointer (some ⟨x.1.p, 0, none⟩)) ((w.alloc (.cells #[.int .i64 i, .int .i64 g] 30)).drewN j) := fun j => by
      have := run_lookH (h.map.keeps (((Keeps.refl [] w).alloc (.cells #[.int .i64 i, .int .i64 g] 30)).drewN j) (by simp)) i g
      rw [hlook] at this
      exact this
    have hb := (h.at_ x hx).alloc (.cells #[.int .i64 i, .int .i64 g] 30)
    have hff := hb.frozen
    have HX := hid (⟨hx, hx1, hx2, hx3⟩ : x ∈ es ∧ x.1.s = i ∧ x.1.g = g ∧ x.2 = d)
    have HF := hid hf
    have HB := hid hb
    have f1 := hff 1
    have f2 := hff 2
    have f4 := hff 4
    have f5 := hff 5
    have c1 := hb.cell 1
    have c2 := hb.cell 2
    have c4 := hb.cell 4
    have c5 := hb.cell 5
    simp [wcells] at c1 c2 c4 c5
    clear h hds hlook hf hx hx1 hx2 hx3 hff hb
    go_enter Try.func52, Try.ntmps52
    go_wp2_with fail
    go_quiet (fail)
    go_wp2_with fail
    go_ret
    have hp := H.out.apart.2.2.2.2 x HX.out.1
    refine .inr ⟨⟨d, HF.out⟩, rfl, ⟨s, m, Fn, Fs, es.map (fun y => (y.1, if y.1.p = x.1.p then chgD a b y.2 else y.2)), clock, ?_, ?_, ?_⟩, ?_⟩
    · refine H.out.upd (K := [x.1.p]) (fun y => if y.1.p = x.1.p then chgD a b y.2 else y.2) (fun y hy => by split <;> rfl) ?_ (fun k hk => ⟨x, HX.out.1, by simpa using hk⟩) (fun y hy => ?_)
      · (repeat (first | exact Keeps.refl _ _ | exact .inl (by simp) | apply Keeps.drewN | apply Keeps.drew | apply Keeps.alloc | apply Keeps.setCell))
      · by_cases hxy : y.1.p = x.1.p
        · have he : y = x := nodup_inj (f := fun z : PX => z.1.p) H.out.pn hy HX.out.1 hxy
          subst he
          rw [if_pos rfl]
          exact pblk_eq (((((HB.out.drewN _).set_ 1 (.bool a)).set_ 2 (.bool b)).set_ 4 (.int .i64 0)).set_ 5 (.int .i64 0)) (by simp [wcells, chgD])
        · rw [if_neg hxy]
          have h8 := (H.out.at_ y hy).alloc (.cells #[.int .i64 i, .int .i64 g] 30)
          exact h8.keeps (F := [x.1.p]) (by (repeat (first | exact Keeps.refl _ _ | exact .inl (by simp) | apply Keeps.drewN | apply Keeps.drew | apply Keeps.setCell))) (by simpa using hxy)
    · rw [HDS.out, chgW, List.map_map, List.map_map]
      refine List.map_congr_left (fun y hy => ?_)
      simp only [Function.comp_def]
      by_cases hxy : y.1.p = x.1.p
      · have he : y = x := nodup_inj (f := fun z : PX => z.1.p) H.out.pn hy HX.out.1 hxy
        subst he
        simp [HX.out.2.1, HX.out.2.2.1]
      · have hne : ¬ (y.1.s, y.1.g) = (i, g) := fun he => hxy (by
          have h9 : y = x := nodup_inj (f := fun z : PX => z.1.s) H.out.kn hy HX.out.1 (by
            have := HX.out.2.1
            injection he with he1 he2
            exact he1.trans this.symm)
          rw [h9])
        rw [if_neg hxy, if_neg hne]
    · simp [List.map_map, Function.comp_def]
    · have hmem : x.1.p ∈ pb :: m :: (Fn ++ (Fs ++ es.map (·.1.p))) := by
        simp only [List.mem_cons, List.mem_append, List.mem_map]
        exact .inr (.inr (.inr (.inr ⟨x, HX.out.1, rfl⟩)))
      (repeat (first | exact Keeps.refl _ _ | exact .inl hmem | apply Keeps.drewN | apply Keeps.drew | apply Keeps.alloc | apply Keeps.setCell))
theorem watched_any (pb n : Nat) (F : List Nat) (N : NS) (L : List Slot) (ds : WL) (w : World) (h : PRep w pb n F N L ds) :
    Calls Try.prog 55 #[.pointer (some ⟨pb, 0, none⟩)] w fun e w' => e = .returned (.int .i64 ds.length) ∧ Keeps [] w w' := by
  obtain ⟨s, m, Fn, Fs, es, clock, h, hds, rfl⟩ := h
  have p2 := h.blk.cell 2
  simp [pcells] at p2
  have hlen : ∀ ty, (Builtin.len_ #[91] ty #[.map (some m)]).run Try.prog w = .ok (.int .i64 ds.length) w := fun ty => by
    have := run_lenH h.map ty
    rw [hds]
    simpa using this
  clear h hds
  go_enter Try.func55, Try.ntmps55
  go_wp2_with fail
  go_ret
  exact ⟨rfl, Keeps.refl _ _⟩
end Go.Proofs.Ytkeffebcmajhmaa
