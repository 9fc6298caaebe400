/- The program's net: Read, Write by contract. -/
import Derived.Test.YtkeffebcmajhmaaNet12
namespace Go.Proofs.Ytkeffebcmajhmaa
open Go.RowKit
set_option linter.unusedVariables false
set_option linter.unusedSimpArgs false
theorem read_nil (k most : Int) (w : World) : Calls Try.prog 42 #[.pointer none, .int .i64 k, .int .i64 most] w fun e w' => e = .returned (.tuple #[.slice none 0 0, .int .i64 1]) ∧ Keeps [] w w' := by
  by_cases h : most < 1
  · go_enter Try.func42, Try.ntmps42
    go_wp2
    go_ret2
    exact ⟨rfl, Keeps.refl _ _⟩
  · go_enter Try.func42, Try.ntmps42
    go_wp2_with (go_at_call 74; refine (ours_nil _ _).mono ?_; rintro e w1 ⟨rfl, hk⟩)
    go_ret2
    exact ⟨rfl, hk⟩
theorem write_nil (k : Int) (pv : Value) (w : World) : Calls Try.prog 41 #[.pointer none, .int .i64 k, pv] w fun e w' => e = .returned (.tuple #[.int .i64 0, .int .i64 1]) ∧ Keeps [] w w' := by
  go_enter Try.func41, Try.ntmps41
  go_wp2_with (go_at_call 74; refine (ours_nil _ _).mono ?_; rintro e w1 ⟨rfl, hk⟩)
  go_ret2
  exact ⟨rfl, hk⟩
theorem pnot {own : Nat → Nat} {i p : Nat} {vi vo vt v : Value} {t : Nat} (h : ∀ k, v.ownBlock = some k → own k = t) (hp : own p ≠ t) : p ∉ v.ownBlock.toList := fun hx => hp (h p (by simpa using hx))
theorem read_done {w w5 : World} {n i p m l icap : Nat} {F : List Nat} {own : Nat → Nat} {ps : List Nat} {vc vq vi vo vt v5 : Value} {IA : Option Addr} {N : NS} {d : Cn} (h : NAt pc w n F own ps vc vq N) (hp : ps[i]? = some p) (hc : CAt pc w own i p d vi vo vt)
    (hvi : vi = .slice IA l icap) (hl : d.inn.length = l) (hm : m ≤ l)
    (hv5 : Row w5 5 1 v5 (d.told.length + m) (bytesV d.told ++ bytesV (d.inn.take m))) (hk5 : Keeps vt.ownBlock.toList (w.setCell ⟨p, 7, none⟩ (.slice (cutA IA m icap 1) (l - m) (icap - m))) w5) (ho5 : ∀ k, v5.ownBlock = some k → vt.ownBlock = some k ∨ w.heap.size ≤ k) :
    NDone pc w n F (N.upd i { d with inn := d.inn.drop m, told := d.told ++ d.inn.take m }) (w5.setCell ⟨p, 12, none⟩ v5) := by
  obtain ⟨h1, h2, h3, h4, h5⟩ := hc
  have hpF : p ∈ F := h.ftag p (by omega)
  have hpt : p ∉ vt.ownBlock.toList := pnot (i := i) (vi := vi) (vo := vo) (vt := vt) h5.2 (by omega)
  have b1 := h1.set_ 7 (.slice (cutA IA m icap 1) (l - m) (icap - m))
  have b5 := b1.keeps hk5 hpt
  have K : Keeps (p :: vt.ownBlock.toList) w (w5.setCell ⟨p, 12, none⟩ v5) :=
    (((Keeps.refl (p :: vt.ownBlock.toList) w).setCell (p := ⟨p, 7, none⟩) (.inl (by simp)) _).trans hk5 (fun g hg => .inl (List.mem_cons_of_mem _ hg))).setCell (p := ⟨p, 12, none⟩) (.inl (by simp)) _
  have hnot : ∀ k, own k ≠ 4 * i + 4 → own k ≠ 4 * i + 7 → k ∉ p :: vt.ownBlock.toList := fun k a b hx => by
    simp only [List.mem_cons, Option.mem_toList] at hx
    rcases hx with rfl | e
    · exact a h2
    · exact b (h5.2 k e)
  have hrow := h3.1
  rw [hvi, hl] at hrow
  have hcut := hrow.cut (lo := m) hm
  have oi : ∀ k, (Value.slice (cutA IA m icap 1) (l - m) (icap - m)).ownBlock = some k → k < w.heap.size ∧ own k = 4 * i + 5 := fun k e => by
    rw [ownBlock_cut] at e
    have e2 : vi.ownBlock = some k := by
      rw [hvi]
      cases IA with
      | none => simp [Value.ownBlock] at e
      | some a => simpa [Value.ownBlock] using e
    exact ⟨h3.1.lt k e2, h3.2 k e2⟩
  refine ⟨h.put (G := p :: vt.ownBlock.toList) (d' := { d with inn := d.inn.drop m, told := d.told ++ d.inn.take m }) (vi := .slice (cutA IA m icap 1) (l - m) (icap - m)) (vo := vo) (vt := v5) (vq' := vq) hp rfl K ?_ h2 h1.lt ?_ ?_ ?_ ?_ ?_ ?_ ?_ ?_ ?_ ?_ ?_, ?_⟩
  · intro k hk' _
    simp only [List.mem_cons, Option.mem_toList] at hk'
    rcases hk' with rfl | e
    · omega
    · have := h5.2 k e
      omega
  · exact h.blk.keeps K (hnot n (by rw [h.tn]; omega) (by rw [h.tn]; omega))
  · exact h.rq.keeps K (fun k e => hnot k (by rw [h.oq k e]; omega) (by rw [h.oq k e]; omega))
  · simpa [pc] using b5.set_ 12 v5
  · simp only [List.length_drop, hl]
    rw [bytesV_drop]
    simp only [Nat.mul_one] at hcut
    exact hcut.keeps K (fun k e => hnot k (by rw [(oi k e).2]; omega) (by rw [(oi k e).2]; omega))
  · exact h4.1.keeps K (fun k e => hnot k (by rw [h4.2 k e]; omega) (by rw [h4.2 k e]; omega))
  · have := hv5.far (p := ⟨p, 12, none⟩) (fun k e => hv5.blk_ne b5 (by decide) k e) v5
    simp only [List.length_append, List.length_take, hl, Nat.min_eq_left hm]
    rw [bytesV_append]
    exact this
  · exact fun k e => .inl (oi k e)
  · exact fun k e => .inl ⟨h4.1.lt k e, h4.2 k e⟩
  · intro k e
    rcases ho5 k e with e1 | e1
    · exact .inl ⟨h5.1.lt k e1, h5.2 k e1⟩
    · exact .inr e1
  · exact fun k e => .inl ⟨h.rq.lt k e, h.oq k e⟩
  · intro k hge
    have a := fun e => h4.1.lt k e
    have b := fun e => oi k e
    have c := fun e => h.rq.lt k e
    refine ⟨fun e => ?_, fun e => ?_, fun e e1 => ?_⟩
    · have := (b e).1
      omega
    · have := a e
      omega
    · have := c e1
      omega
  · refine K.mono (fun g hg => ?_)
    simp only [List.mem_cons, Option.mem_toList] at hg
    rcases hg with rfl | e
    · exact hpF
    · exact h.ftag g (by rw [h5.2 g e]; omega)
theorem write_done {w w5 : World} {n i p m : Nat} {F : List Nat} {own : Nat → Nat} {ps : List Nat} {vc vq vi vo vt v5 : Value} {N : NS} {d : Cn} {b : List Int} {u : Int} (h : NAt pc w n F own ps vc vq N) (hp : ps[i]? = some p) (hc : CAt pc w own i p d vi vo vt)
    (hm : b.length = m) (hv5 : Row w5 5 1 v5 (d.got.length + m) (bytesV d.got ++ bytesV b)) (hk5 : Keeps vo.ownBlock.toList w w5) (ho5 : ∀ k, v5.ownBlock = some k → vo.ownBlock = some k ∨ w.heap.size ≤ k) :
    NDone pc w n F (N.upd i { d with got := d.got ++ b, window := u }) ((w5.setCell ⟨p, 11, none⟩ v5).setCell ⟨p, 8, none⟩ (.int .i64 u)) := by
  obtain ⟨h1, h2, h3, h4, h5⟩ := hc
  have hpF : p ∈ F := h.ftag p (by omega)
  have hpt : p ∉ vo.ownBlock.toList := pnot (i := i) (vi := vi) (vo := vo) (vt := vt) h4.2 (by omega)
  have b5 := h1.keeps hk5 hpt
  have K : Keeps (p :: vo.ownBlock.toList) w ((w5.setCell ⟨p, 11, none⟩ v5).setCell ⟨p, 8, none⟩ (.int .i64 u)) :=
    ((hk5.mono (G := p :: vo.ownBlock.toList) (fun g hg => List.mem_cons_of_mem _ hg)).setCell (p := ⟨p, 11, none⟩) (.inl (by simp)) _).setCell (p := ⟨p, 8, none⟩) (.inl (by simp)) _
  have hnot : ∀ k, own k ≠ 4 * i + 4 → own k ≠ 4 * i + 6 → k ∉ p :: vo.ownBlock.toList := fun k a b hx => by
    simp only [List.mem_cons, Option.mem_toList] at hx
    rcases hx with rfl | e
    · exact a h2
    · exact b (h4.2 k e)
  refine ⟨h.put (G := p :: vo.ownBlock.toList) (d' := { d with got := d.got ++ b, window := u }) (vi := vi) (vo := v5) (vt := vt) (vq' := vq) hp rfl K ?_ h2 h1.lt ?_ ?_ ?_ ?_ ?_ ?_ ?_ ?_ ?_ ?_ ?_, ?_⟩
  · intro k hk' _
    simp only [List.mem_cons, Option.mem_toList] at hk'
    rcases hk' with rfl | e
    · omega
    · have := h4.2 k e
      omega
  · exact h.blk.keeps K (hnot n (by rw [h.tn]; omega) (by rw [h.tn]; omega))
  · exact h.rq.keeps K (fun k e => hnot k (by rw [h.oq k e]; omega) (by rw [h.oq k e]; omega))
  · simpa [pc] using (b5.set_ 11 v5).set_ 8 (.int .i64 u)
  · exact h3.1.keeps K (fun k e => hnot k (by rw [h3.2 k e]; omega) (by rw [h3.2 k e]; omega))
  · have h6 := hv5.far (p := ⟨p, 11, none⟩) (fun k e => hv5.blk_ne b5 (by decide) k e) v5
    have h7 := h6.far (p := ⟨p, 8, none⟩) (fun k e => h6.blk_ne (b5.set_ 11 v5) (by decide) k e) (.int .i64 u)
    simp only [List.length_append, hm]
    rw [bytesV_append]
    exact h7
  · exact h5.1.keeps K (fun k e => hnot k (by rw [h5.2 k e]; omega) (by rw [h5.2 k e]; omega))
  · exact fun k e => .inl ⟨h3.1.lt k e, h3.2 k e⟩
  · intro k e
    rcases ho5 k e with e1 | e1
    · exact .inl ⟨h4.1.lt k e1, h4.2 k e1⟩
    · exact .inr e1
  · exact fun k e => .inl ⟨h5.1.lt k e, h5.2 k e⟩
  · exact fun k e => .inl ⟨h.rq.lt k e, h.oq k e⟩
  · intro k hge
    have a := fun e => h3.1.lt k e
    have b := fun e => h5.1.lt k e
    have c := fun e => h.rq.lt k e
    refine ⟨fun e => ?_, fun e => ⟨fun e1 => ?_, fun e1 => ?_⟩, fun e e1 => ?_⟩
    · have := a e
      omega
    · have := b e1
      omega
    · have := c e1
      omega
    · have := c e1
      omega
  · refine K.mono (fun g hg => ?_)
    simp only [List.mem_cons, Option.mem_toList] at hg
    rcases hg with rfl | e
    · exact hpF
    · exact h.ftag g (by rw [h4.2 g e]; omega)
end Go.Proofs.Ytkeffebcmajhmaa
