/- The reference's slab: Put of a new slot. -/
import Derived.Test.YtkeffebcmajhmaaRefs4
namespace Go.Proofs.Ytkeffebcmajhmaa
open Go.RowKit
set_option linter.unusedVariables false
/-- the three rows, each of a length of its own. -/
def R3 (w : World) (x : Nat) (F : List Nat) (lim : Int) (vu vg vv : Value) (nu ng nv : Nat) (us gs vs : List Value) (n : Int) : Prop :=
  Blk w x 53 #[.int .i64 lim, vu, vg, vv, .int .i64 n] ∧ Row w 4 1 vu nu us ∧ Row w 3 1 vg ng gs ∧ Row w 3 1 vv nv vs ∧
    (∀ k ∈ F, k < w.heap.size) ∧ x ∈ F ∧ (∀ k, vu.ownBlock = some k → k ∈ F) ∧ (∀ k, vg.ownBlock = some k → k ∈ F) ∧ (∀ k, vv.ownBlock = some k → k ∈ F) ∧ (∀ k, vg.ownBlock = some k → vv.ownBlock ≠ some k)
section
variable {w w1 : World} {x nu ng nv m : Nat} {F : List Nat} {lim n : Int} {vu vg vv v' : Value} {us gs vs xs : List Value}
theorem R3.keeps {K : List Nat} (h : R3 w x F lim vu vg vv nu ng nv us gs vs n) (hk : Keeps K w w1) (hd : ∀ k ∈ F, k ∉ K) : R3 w1 x F lim vu vg vv nu ng nv us gs vs n := by
  obtain ⟨h1, h2, h3, h4, h5, h6, h7, h8, h9, h10⟩ := h
  exact ⟨h1.keeps hk (hd _ h6), h2.keeps hk (fun k e => hd _ (h7 k e)), h3.keeps hk (fun k e => hd _ (h8 k e)), h4.keeps hk (fun k e => hd _ (h9 k e)), fun k e => Nat.lt_of_lt_of_le (h5 k e) hk.size, h6, h7, h8, h9, h10⟩
theorem R3.flt_ (h : R3 w x F lim vu vg vv nu ng nv us gs vs n) (i : Nat) (hr : Row w1 4 1 v' m xs ∨ Row w1 3 1 v' m xs) {K : List Nat} (hk : Keeps K w w1) : ∀ k ∈ F ++ v'.ownBlock.toList, k < (w1.setCell ⟨x, i, none⟩ v').heap.size := by
  obtain ⟨h1, h2, h3, h4, h5, -⟩ := h
  intro k hx
  rw [List.mem_append] at hx
  have hs := hk.size
  rcases hx with hx | hx
  · have := h5 k hx; simp [World.setCell]; omega
  · rcases hr with hr | hr
    · have := hr.lt k (by simpa using hx); simpa [World.setCell] using this
    · have := hr.lt k (by simpa using hx); simpa [World.setCell] using this
theorem later_own {v : Value} (hv : ∀ k, v.ownBlock = some k → k ∈ F) (ho : ∀ k, v'.ownBlock = some k → v.ownBlock = some k ∨ w.heap.size ≤ k) : Later F w (F ++ v'.ownBlock.toList) := by
  intro k hx
  rw [List.mem_append] at hx
  rcases hx with hx | hx
  · exact .inl hx
  · rcases ho k (by simpa using hx) with h | h
    · exact .inl (hv k h)
    · exact .inr h
theorem R3.pushU (h : R3 w x F lim vu vg vv nu ng nv us gs vs n) (hr : Row w1 4 1 v' m xs) (hk : Keeps vu.ownBlock.toList w w1) (ho : ∀ k, v'.ownBlock = some k → vu.ownBlock = some k ∨ w.heap.size ≤ k) :
    Blk w1 x 53 #[.int .i64 lim, vu, vg, vv, .int .i64 n] ∧ R3 (w1.setCell ⟨x, 1, none⟩ v') x (F ++ v'.ownBlock.toList) lim v' vg vv m ng nv xs gs vs n ∧ Keeps F w (w1.setCell ⟨x, 1, none⟩ v') ∧ Later F w (F ++ v'.ownBlock.toList) := by
  have hl := h.flt_ 1 (.inl hr) hk
  obtain ⟨h1, h2, h3, h4, h5, h6, h7, h8, h9, h10⟩ := h
  have ha : x ∉ vu.ownBlock.toList := fun hx => h2.blk_ne h1 (by decide) x (by simpa using hx) rfl
  have hb1 := h1.keeps hk ha
  have q3 := h3.keeps hk (fun k e hx => h3.disj h2 (by decide) k e (by simpa using hx))
  have q4 := h4.keeps hk (fun k e hx => h4.disj h2 (by decide) k e (by simpa using hx))
  exact ⟨hb1, ⟨hb1.set_ 1 v', hr.far (fun k e => hr.blk_ne hb1 (by decide) k e) _, q3.far (fun k e => q3.blk_ne hb1 (by decide) k e) _, q4.far (fun k e => q4.blk_ne hb1 (by decide) k e) _, hl, by simp [h6], fun k e => by simp [e], fun k e => by simp [h8 k e], fun k e => by simp [h9 k e], h10⟩,
    (hk.mono (fun g hg => h7 g (by simpa using hg))).setCell (.inl h6) _, later_own h7 ho⟩
theorem R3.pushG (h : R3 w x F lim vu vg vv nu ng nv us gs vs n) (hr : Row w1 3 1 v' m xs) (hk : Keeps vg.ownBlock.toList w w1) (ho : ∀ k, v'.ownBlock = some k → vg.ownBlock = some k ∨ w.heap.size ≤ k) :
    Blk w1 x 53 #[.int .i64 lim, vu, vg, vv, .int .i64 n] ∧ R3 (w1.setCell ⟨x, 2, none⟩ v') x (F ++ v'.ownBlock.toList) lim vu v' vv nu m nv us xs vs n ∧ Keeps F w (w1.setCell ⟨x, 2, none⟩ v') ∧ Later F w (F ++ v'.ownBlock.toList) := by
  have hl := h.flt_ 2 (.inr hr) hk
  obtain ⟨h1, h2, h3, h4, h5, h6, h7, h8, h9, h10⟩ := h
  have ha : x ∉ vg.ownBlock.toList := fun hx => h3.blk_ne h1 (by decide) x (by simpa using hx) rfl
  have hb1 := h1.keeps hk ha
  have q2 := h2.keeps hk (fun k e hx => h2.disj h3 (by decide) k e (by simpa using hx))
  have q4 := h4.keeps hk (fun k e hx => h10 k (by simpa using hx) e)
  exact ⟨hb1, ⟨hb1.set_ 2 v', q2.far (fun k e => q2.blk_ne hb1 (by decide) k e) _, hr.far (fun k e => hr.blk_ne hb1 (by decide) k e) _, q4.far (fun k e => q4.blk_ne hb1 (by decide) k e) _, hl, by simp [h6], fun k e => by simp [h7 k e], fun k e => by simp [e], fun k e => by simp [h9 k e], fun k e he => by
      rcases ho k e with h | h
      · exact h10 k h he
      · have := h4.lt k he
        omega⟩,
    (hk.mono (fun g hg => h8 g (by simpa using hg))).setCell (.inl h6) _, later_own h8 ho⟩
theorem R3.pushV (h : R3 w x F lim vu vg vv nu ng nv us gs vs n) (hr : Row w1 3 1 v' m xs) (hk : Keeps vv.ownBlock.toList w w1) (ho : ∀ k, v'.ownBlock = some k → vv.ownBlock = some k ∨ w.heap.size ≤ k) :
    Blk w1 x 53 #[.int .i64 lim, vu, vg, vv, .int .i64 n] ∧ R3 (w1.setCell ⟨x, 3, none⟩ v') x (F ++ v'.ownBlock.toList) lim vu vg v' nu ng m us gs xs n ∧ Keeps F w (w1.setCell ⟨x, 3, none⟩ v') ∧ Later F w (F ++ v'.ownBlock.toList) := by
  have hl := h.flt_ 3 (.inr hr) hk
  obtain ⟨h1, h2, h3, h4, h5, h6, h7, h8, h9, h10⟩ := h
  have ha : x ∉ vv.ownBlock.toList := fun hx => h4.blk_ne h1 (by decide) x (by simpa using hx) rfl
  have hb1 := h1.keeps hk ha
  have q2 := h2.keeps hk (fun k e hx => h2.disj h4 (by decide) k e (by simpa using hx))
  have q3 := h3.keeps hk (fun k e hx => h10 k e (by simpa using hx))
  exact ⟨hb1, ⟨hb1.set_ 3 v', q2.far (fun k e => q2.blk_ne hb1 (by decide) k e) _, q3.far (fun k e => q3.blk_ne hb1 (by decide) k e) _, hr.far (fun k e => hr.blk_ne hb1 (by decide) k e) _, hl, by simp [h6], fun k e => by simp [h7 k e], fun k e => by simp [h8 k e], fun k e => by simp [e], fun k e he => by
      rcases ho k he with h | h
      · exact h10 k e h
      · have := h3.lt k e
        omega⟩,
    (hk.mono (fun g hg => h9 g (by simpa using hg))).setCell (.inl h6) _, later_own h9 ho⟩
end
theorem rput_new_done {w W0 W3 : World} {x ub uo uc gb go gc vb vo vc : Nat} {F F3 : List Nat} {lim n v : Int} {L : List Slot} (h : RS w x F lim L n) (hk0 : Keeps F w W0) (hk3 : Keeps F W0 W3) (hl : Later F W0 F3)
    (hS : RS W3 x F3 lim (L ++ [((0 : Int), false, (0 : Int))]) n) (hU : W3.cell? ⟨x, 1, none⟩ = some (.slice (some ⟨ub, uo, none⟩) (L ++ [((0 : Int), false, (0 : Int))]).length uc)) (hG : W3.cell? ⟨x, 2, none⟩ = some (.slice (some ⟨gb, go, none⟩) (L ++ [((0 : Int), false, (0 : Int))]).length gc)) (hV : W3.cell? ⟨x, 3, none⟩ = some (.slice (some ⟨vb, vo, none⟩) (L ++ [((0 : Int), false, (0 : Int))]).length vc))
    (hr : w.heap.size ∉ F3) {y z : Value} :
    (∃ F', RS (((((((W3.setCell ⟨ub, uo + L.length, none⟩ (.bool true)).setCell ⟨gb, go + L.length, none⟩ (.int .i64 1)).setCell ⟨vb, vo + L.length, none⟩ (.int .i64 v)).setCell ⟨x, 4, none⟩ (.int .i64 (n + 1))).setCell ⟨w.heap.size, 0, none⟩ y).setCell ⟨w.heap.size, 1, none⟩ z)) x F' lim (L ++ [(1, true, v)]) (n + 1) ∧ Later F w F') ∧
      Keeps F w (((((((W3.setCell ⟨ub, uo + L.length, none⟩ (.bool true)).setCell ⟨gb, go + L.length, none⟩ (.int .i64 1)).setCell ⟨vb, vo + L.length, none⟩ (.int .i64 v)).setCell ⟨x, 4, none⟩ (.int .i64 (n + 1))).setCell ⟨w.heap.size, 0, none⟩ y).setCell ⟨w.heap.size, 1, none⟩ z)) := by
  have h1 := hS.puts hU hG hV (j := L.length) (d := (0, false, 0)) (by simp) v
  have e : (L ++ [((0 : Int), false, (0 : Int))]).set L.length (0 + 1, true, v) = L ++ [(1, true, v)] := by
    rw [List.set_append_right _ _ (Nat.le_refl _)]
    simp
  simp only [e] at h1
  obtain ⟨-, -, -, -, -, -, hu, hg, hv, -⟩ := hS.apart hU hG hV
  obtain ⟨-, -, -, hx, -⟩ := hS.cN
  have hw : ∀ k ∈ F3, k ∉ [w.heap.size] := fun k hk hx => by
    simp at hx
    subst hx
    exact hr hk
  have hl2 : Later F w F3 := fun k hk => by
    rcases hl k hk with h | h
    · exact .inl h
    · have := hk0.size
      exact .inr (by omega)
  refine ⟨⟨F3, h1.keeps (((Keeps.refl [w.heap.size] _).setCell (p := ⟨w.heap.size, 0, none⟩) (.inl (by simp)) y).setCell (p := ⟨w.heap.size, 1, none⟩) (.inl (by simp)) z) hw, hl2⟩, ?_⟩
  have hk := hk0.trans hk3 (fun k hk => .inl hk)
  exact (((((hk.setCell (hl2 _ hu) _).setCell (hl2 _ hg) _).setCell (hl2 _ hv) _).setCell (hl2 _ hx) _).setCell (.inr (Nat.le_refl _)) _).setCell (.inr (Nat.le_refl _)) _
set_option maxRecDepth 100000 in
set_option maxHeartbeats 2000000 in
theorem rsput_new (x : Nat) (F : List Nat) (lim n : Int) (L : List Slot) (v : Int) (w : World) (h : RS w x F lim L n) (hn : n < lim) (hL : L.length ≤ 1099511627776) (hd : freeAt L = L.length) (hn0 : -1099511627776 ≤ n) (hn1 : n ≤ 1099511627776) :
    Calls Try.prog 26 #[.pointer (some ⟨x, 0, none⟩), .int .i64 v] w (RPut w x F lim n v L) := by
  obtain ⟨i0, hi0, hz0, hz1, hz2⟩ := info_parts bool_info
  obtain ⟨i1, hi1, hy0, hy1, hy2⟩ := info_parts int_info
  obtain ⟨c4, c0, hfx, hxF, hxl⟩ := h.cN
  have H := hid h
  obtain ⟨vu, vg, vv, hr3⟩ := id h
  have hr3 : R3 w x F lim vu vg vv L.length L.length L.length (usedV L) (genV L) (valV L) n := hr3
  obtain ⟨UA, uc, rfl, -⟩ := hr3.2.1.form
  obtain ⟨GA, gc, rfl, -⟩ := hr3.2.2.1.form
  obtain ⟨VA, vc, rfl, -⟩ := hr3.2.2.2.1.form
  have h1 := hr3.1.cell 1
  simp at h1
  have HU : Hid (∀ j, j < L.length → ∃ b off, UA = some ⟨b, off, none⟩ ∧ w.cell? ⟨b, off + j, none⟩ = some (.bool true)) := by
    refine hid fun j hj => ?_
    obtain ⟨b, o, hu, -, hcu⟩ := (hr3.2.1.cellsIn (F := []) (by simp)).at_ (by simp [usedV]; omega)
    have hdj := List.getElem?_eq_getElem (l := L) (i := j) hj
    have h5 := hcu j (.bool (L[j]).2.1) (by simp [usedV, hdj])
    rw [freeAt_used (by omega) hdj] at h5
    exact ⟨b, o, hu, h5⟩
  have n0 := fun o => alloc_cell c0 o
  have n1 := fun o => alloc_cell h1 o
  have n4 := fun o => alloc_cell c4 o
  have HD := hid hd
  have HR3 := hid hr3
  clear h c0 c4 h1 hd hr3
  unfold RPut putL putG
  rw [HD.out, List.getElem?_eq_none (Nat.le_refl _)]
  simp only
  go_enter Try.func26, Try.ntmps26
  go_wp2_with fail
  go_quiet (fail)
  go_wp2_with fail
  go_loop [6] (fun i => ∃ j : Nat, j ≤ L.length ∧ i = .int .i64 j) (fun i => L.length - (intOf i).toNat)
  case atStart => exact ⟨0, Nat.zero_le _, rfl⟩
  case round =>
    obtain ⟨j, hj, rfl⟩ := hrel
    by_cases hlt : j < L.length
    · obtain ⟨b, off, rfl, hcj0⟩ := HU.out j hlt
      have hcj := fun o => alloc_cell hcj0 o
      have hji : (j : Int) < L.length := by omega
      clear hcj0
      go_wp2_with fail
      go_round
      case rel => exact ⟨j + 1, by omega, by go_num⟩
      case measure => simp [intOf] <;> omega
    · have hji : j = L.length := by omega
      subst hji
      have HB0 : Hid (Blk ((w.alloc (.cells #[.int .i64 0, .int .i64 0] 30)).drewN nq) w.heap.size 30 #[.int .i64 0, .int .i64 0]) := hid ((Blk.new w _ _).drewN _)
      have HR0 : Hid (R3 ((w.alloc (.cells #[.int .i64 0, .int .i64 0] 30)).drewN nq) x F lim (.slice UA L.length uc) (.slice GA L.length gc) (.slice VA L.length vc) L.length L.length L.length (usedV L) (genV L) (valV L) n) := hid (HR3.out.keeps (((Keeps.refl [] w).alloc _).drewN _) (by simp))
      have HK0 : Hid (Keeps F w ((w.alloc (.cells #[.int .i64 0, .int .i64 0] 30)).drewN nq)) := hid (((Keeps.refl F w).alloc _).drewN _)
      have hrF : w.heap.size ∉ F := fun hx => by have := H.out.flt _ hx; omega
      have HRF := hid hrF
      clear hrF
      go_upto_region 10 with (first
        | (at_builtin; refine wpList_append_row _ rfl (.tmp 46) (.tmp 47) _ rfl 4 i0 _ 1 1 Try.underlying51 hi0 hz0 hz1 hz2 rfl (by omega) (.slice UA L.length uc) L.length _ rfl (HR0.out.2.1.alloc _) (some ⟨w.heap.size + 1, 0, none⟩) 1 1 [.bool false] rfl (reads_blk1 (Blk.newAt (by simp))) (by simp [Value.oneCell']) (by simp only [maxLen]; omega) (by omega) ?_; intro v1 w1 hv1 hk1 ho1; obtain ⟨A1, q1, rfl, -⟩ := hv1.form; have ho1' : ∀ k, (Value.slice A1 (L.length + 1) q1).ownBlock = some k → (Value.slice UA L.length uc).ownBlock = some k ∨ ((w.alloc (.cells #[.int .i64 0, .int .i64 0] 30)).drewN nq).heap.size ≤ k := (fun k hk => by rcases ho1 k hk with h | h; exact .inl h; right; simp at h ⊢; omega); have hk1' := Keeps.trans ((Keeps.refl _ ((w.alloc (.cells #[.int .i64 0, .int .i64 0] 30)).drewN nq)).alloc (.cells #[.bool false] 4)) hk1 (fun j hj => .inl hj); obtain ⟨hb1, hp1, hkk1, hl1⟩ := HR0.out.pushU hv1 hk1' ho1'; have k1 := hb1.cell 1; have k2 := hb1.cell 2; have k3 := hb1.cell 3; have k4 := hb1.cell 4; have kf := hb1.frozen; simp at k1 k2 k3 k4; have HP1 := hid hp1; have HKK1 := hid hkk1; have HL1 := hid hl1; clear hv1 hk1 ho1 ho1' hk1' hb1 hp1 hkk1 hl1)
        | (at_builtin; refine wpList_append_row _ rfl (.tmp 55) (.tmp 56) _ rfl 3 i1 _ 1 8 Try.underlying22 hi1 hy0 hy1 hy2 rfl (by omega) (.slice GA L.length gc) L.length _ rfl (HP1.out.2.2.1.alloc _) (some ⟨w1.heap.size, 0, none⟩) 1 1 [.int .i64 0] rfl (reads_blk1 (Blk.newAt (by simp [World.setCell]))) (by simp [Value.oneCell']) (by simp only [maxLen]; omega) (by omega) ?_; intro v2 w2 hv2 hk2 ho2; obtain ⟨A2, q2, rfl, -⟩ := hv2.form; have ho2' : ∀ k, (Value.slice A2 (L.length + 1) q2).ownBlock = some k → (Value.slice GA L.length gc).ownBlock = some k ∨ (w1.setCell ⟨x, 1, none⟩ (.slice A1 (L.length + 1) q1)).heap.size ≤ k := (fun k hk => by rcases ho2 k hk with h | h; exact .inl h; right; simp at h ⊢; omega); have hk2' := Keeps.trans ((Keeps.refl _ (w1.setCell ⟨x, 1, none⟩ (.slice A1 (L.length + 1) q1))).alloc (.cells #[.int .i64 0] 3)) hk2 (fun j hj => .inl hj); obtain ⟨hb2, hp2, hkk2, hl2⟩ := HP1.out.pushG hv2 hk2' ho2'; have k5 := hb2.cell 2; have k6 := hb2.cell 3; have kg := hb2.frozen; simp at k5 k6; have HP2 := hid hp2; have HKK2 := hid hkk2; have HL2 := hid hl2; clear hv2 hk2 ho2 ho2' hk2' hb2 hp2 hkk2 hl2)
        | (at_builtin; refine wpList_append_row _ rfl (.tmp 64) (.tmp 65) _ rfl 3 i1 _ 1 8 Try.underlying22 hi1 hy0 hy1 hy2 rfl (by omega) (.slice VA L.length vc) L.length _ rfl (HP2.out.2.2.2.1.alloc _) (some ⟨w2.heap.size, 0, none⟩) 1 1 [.int .i64 0] rfl (reads_blk1 (Blk.newAt (by simp [World.setCell]))) (by simp [Value.oneCell']) (by simp only [maxLen]; omega) (by omega) ?_; intro v3 w3 hv3 hk3 ho3; obtain ⟨A3, q3, rfl, -⟩ := hv3.form; have ho3' : ∀ k, (Value.slice A3 (L.length + 1) q3).ownBlock = some k → (Value.slice VA L.length vc).ownBlock = some k ∨ (w2.setCell ⟨x, 2, none⟩ (.slice A2 (L.length + 1) q2)).heap.size ≤ k := (fun k hk => by rcases ho3 k hk with h | h; exact .inl h; right; simp at h ⊢; omega); have hk3' := Keeps.trans ((Keeps.refl _ (w2.setCell ⟨x, 2, none⟩ (.slice A2 (L.length + 1) q2))).alloc (.cells #[.int .i64 0] 3)) hk3 (fun j hj => .inl hj); obtain ⟨hb3, hp3, hkk3, hl3⟩ := HP2.out.pushV hv3 hk3' ho3'; have k7 := hb3.cell 3; have kh := hb3.frozen; simp at k7; have HP3 := hid hp3; have HKK3 := hid hkk3; have HL3 := hid hl3; clear hv3 hk3 ho3 ho3' hk3' hb3 hp3 hkk3 hl3))
      obtain ⟨W3, hW3⟩ : ∃ W3, w3.setCell ⟨x, 3, none⟩ (.slice A3 (L.length + 1) q3) = W3 := ⟨_, rfl⟩
      rw [hW3] at HP3 HKK3 ⊢
      clear hW3 k1 k2 k3 k4 k5 k6 k7 kf kg kh
      have hL1 := HL1.out.trans HL2.out HKK1.out.size
      have hL2 := hL1.trans HL3.out (Nat.le_trans HKK1.out.size HKK2.out.size)
      have hK3 := ((HKK1.out.trans HKK2.out HL1.out).trans HKK3.out hL1)
      obtain ⟨F3, hF3⟩ : ∃ F3, F ++ (Value.slice A1 (L.length + 1) q1).ownBlock.toList ++ (Value.slice A2 (L.length + 1) q2).ownBlock.toList ++ (Value.slice A3 (L.length + 1) q3).ownBlock.toList = F3 := ⟨_, rfl⟩
      rw [hF3] at HP3 hL2
      have hS : RS W3 x F3 lim (L ++ [((0 : Int), false, (0 : Int))]) n := by
        have h := HP3.out
        have e : L.length + 1 = (L ++ [((0 : Int), false, (0 : Int))]).length := by simp
        have e1 : usedV L ++ [Value.bool false] = usedV (L ++ [((0 : Int), false, (0 : Int))]) := by simp [usedV]
        have e2 : genV L ++ [Value.int .i64 0] = genV (L ++ [((0 : Int), false, (0 : Int))]) := by simp [genV]
        have e3 : valV L ++ [Value.int .i64 0] = valV (L ++ [((0 : Int), false, (0 : Int))]) := by simp [valV]
        rw [e, e1, e2, e3] at h
        exact ⟨_, _, _, h⟩
      obtain ⟨UB, uc', GB, gc', VB, vc', g1, g2, g3, gcc⟩ := hS.opened
      obtain ⟨ub, uo, gb, go, vb, vo, rfl, rfl, rfl, hcc⟩ := gcc (by simp)
      have hdl : (L ++ [((0 : Int), false, (0 : Int))])[L.length]? = some (0, false, 0) := by simp
      obtain ⟨p0, p1, p2⟩ := hcc L.length _ hdl
      obtain ⟨hug, huv, hgv, hux, hgx, hvx, huF, hgF, hvF, -⟩ := hS.apart g1 g2 g3
      obtain ⟨-, -, fu, -⟩ := hS.setUsed g1 hdl
      obtain ⟨-, -, fg, -⟩ := hS.setGen g2 hdl
      obtain ⟨-, -, fv, -⟩ := hS.setVal g3 hdl
      obtain ⟨c4, -, fx, hxF3, hxl3⟩ := hS.cN
      have fu' := fu (uo + L.length)
      have fg' := fg (go + L.length)
      have fv' := fv (vo + L.length)
      have fx' := fx 4
      have hrF3 : w.heap.size ∉ F3 := fun hx => by
        rcases hL2 _ hx with h | h
        · exact HRF.out h
        · simp at h
          omega
      have hbr := HB0.out.keeps hK3 HRF.out
      have r0 := hbr.cell 0
      have r1 := hbr.cell 1
      have rf0 := hbr.frozen 0
      have rf1 := hbr.frozen 1
      simp at r0 r1
      have hru : ub ≠ w.heap.size := fun e => hrF3 (e ▸ huF)
      have hrg : gb ≠ w.heap.size := fun e => hrF3 (e ▸ hgF)
      have hrv : vb ≠ w.heap.size := fun e => hrF3 (e ▸ hvF)
      have hrx : x ≠ w.heap.size := fun e => hrF3 (e ▸ hxF3)
      have hlL : (L.length : Int) < (L.length : Int) + 1 := by omega
      have HDONE := hid (rput_new_done (v := v) H.out HK0.out hK3 hL2 hS g1 g2 g3 hrF3 (y := .int .i64 L.length) (z := .int .i64 1))
      simp only [List.length_append, List.length_singleton] at g1 g2 g3
      clear hcc gcc hdl fu fg fv fx hbr hK3 hL1 hL2 hF3 hS HP1 HP2 HP3 HKK1 HKK2 HKK3 HL1 HL2 HL3 hr3 HR3 HR0
      go_wp2_with fail
      refine bodyPost_ret (v := .tuple #[.agg #[.int .i64 L.length, .int .i64 1], .int .i64 0]) (by simp [results, Try.results26, go_sem, r0, r1]) rfl ⟨rfl, ?_⟩
      exact HDONE.out
theorem rsput_any (s : Nat) (F : List Nat) (lim n : Int) (L : List Slot) (v : Int) (w : World) (h : RS w s F lim L n) (hn : n < lim) (hg : ∀ d ∈ L, 0 ≤ d.1 ∧ d.1 ≤ 1099511627776) (hL : L.length ≤ 1099511627776) (hn0 : -1099511627776 ≤ n) (hn1 : n ≤ 1099511627776) :
    Calls Try.prog 26 #[.pointer (some ⟨s, 0, none⟩), .int .i64 v] w (RPut w s F lim n v L) := by
  by_cases hk : freeAt L < L.length
  · have hd := List.getElem?_eq_getElem hk
    have hb := hg _ (List.mem_of_getElem? hd)
    exact rsput_old s F lim n L _ v w h hn hL hd hb.1 hb.2 hn0 hn1
  · exact rsput_new s F lim n L v w h hn hL (by have := freeAt_le L; omega) hn0 hn1
end Go.Proofs.Ytkeffebcmajhmaa
