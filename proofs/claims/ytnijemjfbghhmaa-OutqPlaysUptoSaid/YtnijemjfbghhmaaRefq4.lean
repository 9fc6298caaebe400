/- The reference's queue: Left and Drop by contract. -/
import Derived.Test.YtnijemjfbghhmaaRefq3
namespace Go.Proofs.Ytnijemjfbghhmaa
open Go.RowKit
set_option maxRecDepth 100000 in
set_option maxHeartbeats 2000000 in
theorem rleft_any (x : Nat) (F : List Nat) (bs es : List Int) (g : Int) (t : Nat) (w : World) (h : RQ w x F bs es g t) (ht : t ≤ es.length) (hes : es.length ≤ 1099511627776) :
    Calls Try.prog 26 #[.pointer (some ⟨x, 0, none⟩)] w fun e w' => NewInts w (toldV t (es.length - t)) e w' ∧ Keeps [] w w' := by
  obtain ⟨i1, hi1, hy0, hy1, hy2⟩ := info_parts int_info
  obtain ⟨vb, ve, b1, b2, b3, b4, b5, b6, b7⟩ := h
  obtain ⟨EA, ec, rfl, -, -, -, -⟩ := b3.form
  have c3 := b1.cell 3
  simp at c3
  have HB := hid b1
  clear b1 b2 b3 b4 b6 b7
  go_enter Try.func26, Try.ntmps26
  go_wp2_with fail
  go_loopw [3, 4] (fun l i wr => ∃ (T m : Nat), m = t + T ∧ m ≤ es.length ∧ i = .int .i64 m ∧ Row wr 3 1 l T (intsV (toldV t T)) ∧ (∀ j, l.ownBlock = some j → w.heap.size ≤ j) ∧ Keeps [] w wr) (fun _ i _ => es.length - (intOf i).toNat)
  case atStart => exact ⟨0, t, rfl, ht, rfl, Row.nil _ _ _, by simp [Value.ownBlock], Keeps.refl _ _⟩
  case round =>
    obtain ⟨T, m, hm, hme, rfl, hrow, hob, hkp⟩ := hrel
    have HM := hid hm
    have HROW := hid hrow
    have HOB := hid hob
    obtain ⟨LA, lc, rfl, -⟩ := hrow.form
    have c1 : wr.cell? ⟨x, 1, none⟩ = some (.slice EA es.length ec) := by simpa using (HB.out.keeps hkp (by simp)).cell 1
    have hT1 : T ≤ 1099511627776 := by omega
    clear hm hrow hob c3
    by_cases hlt : m < es.length
    · have hlti : (m : Int) < es.length := by omega
      go_wp2_with (at_builtin; refine wpList_append_row _ rfl (.tmp 18) (.tmp 21) _ rfl 3 i1 _ 1 8 Try.underlying23 hi1 hy0 hy1 hy2 rfl (by omega) (.slice LA T lc) T _ rfl (HROW.out.alloc _) (some ⟨wr.heap.size, 0, none⟩) 1 1 [.int .i64 (m + 1)] rfl (reads_blk1 (Blk.new wr _ _)) (by simp [Value.oneCell']) (by simp only [maxLen]; omega) (by omega) ?_; intro v2 w2 hv2 hk2 ho2)
      go_roundw
      case rel =>
        refine ⟨T + 1, m + 1, by have := HM.out; omega, by omega, by go_num, ?_, ?_, (hkp.alloc _).trans hk2 (fun j hj => .inr (HOB.out j (by simpa using hj)))⟩
        · rw [toldV_succ, ← HM.out]
          simpa [intsV] using hv2
        · intro j hj
          rcases ho2 j hj with h | h
          · exact HOB.out j h
          · have h5 := hkp.size
            simp at h
            omega
      case measure => simp [intOf] <;> omega
    · have hlti : ¬ (m : Int) < es.length := by omega
      go_wp2
      go_ret
      have hT : es.length - t = T := by have := HM.out; omega
      rw [hT]
      exact ⟨⟨_, rfl, by rw [toldV_length]; exact HROW.out, HOB.out⟩, hkp⟩
def RDrop (x : Nat) (F : List Nat) (es : List Int) (g : Int) (w w' : World) : Prop := ∃ es', es'.length = es.length ∧ RQ w' x F [] es' g es.length ∧ Keeps F w w'
set_option maxRecDepth 100000 in
set_option maxHeartbeats 2000000 in
theorem rdrop_any (x : Nat) (F : List Nat) (bs es : List Int) (g : Int) (t : Nat) (w : World) (h : RQ w x F bs es g t) (ht : t ≤ es.length) (hes : es.length ≤ 1099511627776) :
    Calls Try.prog 25 #[.pointer (some ⟨x, 0, none⟩)] w fun e w' => e = .returned (.int .i64 bs.length) ∧ RDrop x F es g w w' := by
  obtain ⟨vb, ve, b1, b2, b3, b4, b5, b6, b7⟩ := h
  obtain ⟨A, c, rfl, -⟩ := b2.form
  obtain ⟨EA, ec, rfl, -, -, -, -⟩ := b3.form
  have c0 := b1.cell 0
  have c3 := b1.cell 3
  simp at c0 c3
  have f0 := b1.frozen 0
  have hstart : Hid (RQ (w.setCell ⟨x, 0, none⟩ (.slice none 0 0)) x F [] es g t ∧ Keeps F w (w.setCell ⟨x, 0, none⟩ (.slice none 0 0))) := by
    have hs := RQ.setB b1 b2 b3 b4 b5 b6 b7 (vb' := .slice none 0 0) (bs' := []) (Row.nil w _ _) (Keeps.refl _ w) (by simp [Value.ownBlock])
    have e : F ++ (Value.slice none 0 0).ownBlock.toList = F := by simp [Value.ownBlock]
    rw [e] at hs
    exact ⟨hs.1, hs.2.1⟩
  have d3 : (w.setCell ⟨x, 0, none⟩ (.slice none 0 0)).cell? ⟨x, 3, none⟩ = some (.int .i64 t) := by
    obtain ⟨_, _, h1, -⟩ := hstart.out.1
    simpa using h1.cell 3
  have B5 := hid b5
  clear b1 b2 b3 b4 b5 b6 b7
  go_enter Try.func25, Try.ntmps25
  go_wp2_with fail
  go_loopw [4] (fun i wr => ∃ (m : Nat) (es' : List Int), m ≤ es.length ∧ i = .int .i64 m ∧ es'.length = es.length ∧ RQ wr x F [] es' g t ∧ Keeps F w wr) (fun i _ => es.length - (intOf i).toNat)
  case atStart => exact ⟨t, es, ht, rfl, rfl, hstart.out.1, hstart.out.2⟩
  case round =>
    clear hstart c0 c3 f0 d3
    obtain ⟨m, es', hme, rfl, hel, hq, hkp⟩ := hrel
    have HQ := hid hq
    obtain ⟨vb, ve, b1, b2, b3, b4, b5, b6, b7⟩ := hq
    rw [hel] at b3
    obtain ⟨EA, ec, rfl, -, -, -, -⟩ := b3.form
    have c1 := b1.cell 1
    have c2 := b1.cell 2
    simp only [List.getElem?_toArray, List.getElem?_cons_succ, List.getElem?_cons_zero] at c1 c2
    have f3 := b1.frozen 3
    by_cases hlt : m < es.length
    · obtain ⟨eb, off, cap, hve, -, -, hcell, hfz, hset⟩ := b3.open_ (by omega)
      injection hve with hve _ _
      subst hve
      obtain ⟨y, hy⟩ : ∃ y, es'[m]? = some y := ⟨es'[m], List.getElem?_eq_getElem (by omega)⟩
      have hc := hcell m (.int .i64 y) (by simp [intsV, hy])
      have hf := hfz (off + m)
      have hlti : (m : Int) < es.length := by omega
      have HS : Hid (RQ (wr.setCell ⟨eb, off + m, none⟩ (.int .i64 g)) x F [] (es'.set m g) g t) := by
        have hs := hset m (.int .i64 g) (by simp [intsV]; omega)
        have hne : x ≠ eb := fun hx => b3.blk_ne b1 (by decide) eb (by simp [Value.ownBlock]) hx.symm
        have e1 : (intsV es').set m (.int .i64 g) = intsV (es'.set m g) := by simp [intsV, List.map_set]
        rw [e1] at hs
        refine ⟨_, _, b1.far (p := ⟨eb, off + m, none⟩) hne _, b2.far (p := ⟨eb, off + m, none⟩) (fun j hj hx => b2.disj b3 (by decide) j hj (by simp [Value.ownBlock]; exact hx.symm)) _, by simpa [hel] using hs, fun j hj => by simpa [World.setCell] using b4 j hj, b5, b6, b7⟩
      have hebF : eb ∈ F := b7 eb (by simp [Value.ownBlock])
      have HEB := hid hebF
      clear b1 b2 b3 b4 b6 b7 hcell hfz hset hy hebF
      go_wp2_with fail
      go_region_law (fail)
      all_goals
        go_wp2_with fail
        go_roundw
        case rel => exact ⟨m + 1, es'.set m g, by omega, by go_num, by simp [hel], HS.out.keeps ((Keeps.refl [] _).drewN 1) (by simp), (hkp.setCell (.inl HEB.out) _).drewN 1⟩
        case measure => simp [intOf] <;> omega
    · have hlti : ¬ (m : Int) < es.length := by omega
      clear b1 b2 b3 b4 b6 b7
      have hfin : Hid (RDrop x F es g w (wr.setCell ⟨x, 3, none⟩ (.int .i64 es.length))) := ⟨es', hel, HQ.out.setT _, hkp.setCell (.inl B5.out) _⟩
      have c3 : wr.cell? ⟨x, 3, none⟩ = some (.int .i64 t) := by
        obtain ⟨_, _, h1, -⟩ := HQ.out
        simpa using h1.cell 3
      go_wp2
      go_ret
      exact ⟨rfl, hfin.out⟩
end Go.Proofs.Ytnijemjfbghhmaa
