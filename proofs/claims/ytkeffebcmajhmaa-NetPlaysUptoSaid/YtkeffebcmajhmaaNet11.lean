/- The program's net: Send by contract. -/
import Derived.Test.YtkeffebcmajhmaaNet10
namespace Go.Proofs.Ytkeffebcmajhmaa
open Go.RowKit
set_option linter.unusedVariables false
theorem send_nil (k : Int) (pv : Value) (w : World) : Calls Try.prog 39 #[.pointer none, .int .i64 k, pv] w fun e w' => e = .returned (.tuple #[.int .i64 0, .int .i64 1]) ∧ Keeps [] w w' := by
  go_enter Try.func39, Try.ntmps39
  go_wp2_with (go_at_call 73; refine (theirs_nil _ _).mono ?_; rintro e w1 ⟨rfl, hk⟩)
  go_ret2
  exact ⟨rfl, hk⟩
/-- rows of bytes that were handed in. -/
def RowsIn (w : World) (F : List Nat) (v : Value) (rows : List (Value × List Int)) : Prop := CellsIn w F v (rows.map (·.1)) ∧ ∀ r ∈ rows, CellsIn w F r.1 (bytesV r.2)
theorem RowsIn.keeps {w w' : World} {F G : List Nat} {v : Value} {rows : List (Value × List Int)} (h : RowsIn w F v rows) (hk : Keeps G w w') (hG : ∀ x ∈ G, x ∈ F ∨ w.heap.size ≤ x) : RowsIn w' F v rows :=
  ⟨h.1.keeps hk hG, fun r hr => (h.2 r hr).keeps hk hG⟩
/-- what has been poured in behind so many rows. -/
def poured (l : List Int) (rows : List (List Int)) : List Int := (l ++ rows.flatten).take 1024
theorem poured_nil (l : List Int) (h : l.length ≤ 1024) : poured l [] = l := by simp [poured, List.take_of_length_le h]
theorem poured_len (l : List Int) (rows : List (List Int)) : (poured l rows).length ≤ 1024 := by simp [poured]; omega
theorem poured_ge (l : List Int) (rows : List (List Int)) (h : l.length ≤ 1024) : l.length ≤ (poured l rows).length := by simp [poured]; omega
theorem poured_snoc (l : List Int) (rows : List (List Int)) (r : List Int) : poured l (rows ++ [r]) = poured l rows ++ r.take (min r.length (1024 - (poured l rows).length)) := by
  unfold poured
  rw [List.flatten_append, List.flatten_singleton, ← List.append_assoc]
  obtain ⟨x, hx⟩ : ∃ x, l ++ rows.flatten = x := ⟨_, rfl⟩
  rw [hx]
  rw [List.take_append, List.length_take]
  have key : r.take (1024 - x.length) = r.take (min r.length (1024 - min 1024 x.length)) := by
    by_cases h : x.length ≤ 1024
    · rw [Nat.min_eq_right h]
      by_cases h2 : r.length ≤ 1024 - x.length
      · rw [Nat.min_eq_left h2, List.take_of_length_le h2, List.take_of_length_le (Nat.le_refl _)]
      · rw [Nat.min_eq_right (by omega)]
    · have a : 1024 - x.length = 0 := by omega
      have b : min r.length (1024 - min 1024 x.length) = 0 := by omega
      rw [a, b]
  rw [key]
/-- a connection in the midst of a Send. -/
def SendSt (w0 wr : World) (p : Nat) (d : Cn) (vi vo vt vi' : Value) (cur : List Int) : Prop :=
  Blk wr p pc.T (pc.lay { d with inn := cur } vi' vo vt) ∧ Row wr 5 1 vi' cur.length (bytesV cur) ∧ (∀ k, vi'.ownBlock = some k → vi.ownBlock = some k ∨ w0.heap.size ≤ k) ∧ Keeps (p :: vi.ownBlock.toList) w0 wr
theorem SendSt.step {w0 wr w5 : World} {p : Nat} {d : Cn} {vi vo vt vi' v5 : Value} {cur add : List Int} {m : Nat} (h : SendSt w0 wr p d vi vo vt vi' cur) (hm : add.length = m) (hv : Row w5 5 1 v5 (cur.length + m) (bytesV cur ++ bytesV add)) (hk : Keeps vi'.ownBlock.toList wr w5) (ho : ∀ k, v5.ownBlock = some k → vi'.ownBlock = some k ∨ wr.heap.size ≤ k) (hp : p ∉ vi'.ownBlock.toList) :
    SendSt w0 (w5.setCell ⟨p, 7, none⟩ v5) p d vi vo vt v5 (cur ++ add) := by
  obtain ⟨h1, h2, h3, h4⟩ := h
  subst hm
  have hz := h4.size
  have b5 := h1.keeps hk hp
  refine ⟨by simpa [pc] using b5.set_ 7 v5, ?_, fun k e => ?_, ?_⟩
  · have := hv.far (p := ⟨p, 7, none⟩) (fun k e => hv.blk_ne b5 (by decide) k e) v5
    rw [List.length_append, bytesV_append]
    exact this
  · rcases ho k e with e1 | e1
    · exact h3 k e1
    · exact .inr (by omega)
  · refine (h4.trans hk (fun g hg => ?_)).setCell (p := ⟨p, 7, none⟩) (.inl (by simp)) _
    rcases h3 g (by simpa using hg) with e | e
    · exact .inl (by simp [e])
    · exact .inr e
theorem send_done {w w1 w' wr : World} {n i p : Nat} {F : List Nat} {own : Nat → Nat} {ps : List Nat} {vc vq vi vo vt vi' : Value} {N : NS} {d d' : Cn} {cur : List Int} (h : NAt pc w1 n F own ps vc vq N) (hk1 : Keeps [] w w1) (hp : ps[i]? = some p) (hd : N.cs[i]? = some d) (hc : CAt pc w1 own i p d vi vo vt)
    (hs : SendSt w1 wr p d vi vo vt vi' cur) (hk : Keeps [p] wr w') (hb : Blk w' p pc.T (pc.lay d' vi' vo vt)) (hi : d'.inn = cur) (hg : d'.got = d.got) (ht : d'.told = d.told) : NDone pc w n F (N.upd i d') w' := by
  refine NDone.after h hk1 ?_
  obtain ⟨h1, h2, h3, h4, h5⟩ := hc
  obtain ⟨s1, s2, s3, s4⟩ := hs
  have hpF : p ∈ F := h.ftag p (by omega)
  have K : Keeps (p :: vi.ownBlock.toList) w1 w' := s4.trans hk (fun g hg => by simp at hg; subst hg; exact .inl (by simp))
  have hnot : ∀ k, own k ≠ 4 * i + 4 → own k ≠ 4 * i + 5 → k ∉ p :: vi.ownBlock.toList := fun k a b hx => by
    simp only [List.mem_cons, Option.mem_toList] at hx
    rcases hx with rfl | e
    · exact a h2
    · exact b (h3.2 k e)
  have hvi : Row w' 5 1 vi' cur.length (bytesV cur) := s2.keeps hk (fun k e hx => by simp at hx; exact s2.blk_ne s1 (by decide) k e hx)
  refine ⟨h.put (G := p :: vi.ownBlock.toList) (d' := d') (vi := vi') (vo := vo) (vt := vt) (vq' := vq) hp rfl K ?_ h2 h1.lt ?_ ?_ hb ?_ ?_ ?_ ?_ ?_ ?_ ?_ ?_, ?_⟩
  · intro k hk' _
    simp only [List.mem_cons, Option.mem_toList] at hk'
    rcases hk' with rfl | e
    · omega
    · have := h3.2 k e
      omega
  · exact h.blk.keeps K (hnot n (by rw [h.tn]; omega) (by rw [h.tn]; omega))
  · exact h.rq.keeps K (fun k e => hnot k (by rw [h.oq k e]; omega) (by rw [h.oq k e]; omega))
  · rw [hi]
    exact hvi
  · rw [hg]
    exact h4.1.keeps K (fun k e => hnot k (by rw [h4.2 k e]; omega) (by rw [h4.2 k e]; omega))
  · rw [ht]
    exact h5.1.keeps K (fun k e => hnot k (by rw [h5.2 k e]; omega) (by rw [h5.2 k e]; omega))
  · intro k e
    rcases s3 k e with e1 | e1
    · exact .inl ⟨h3.1.lt k e1, h3.2 k e1⟩
    · exact .inr e1
  · exact fun k e => .inl ⟨h4.1.lt k e, h4.2 k e⟩
  · exact fun k e => .inl ⟨h5.1.lt k e, h5.2 k e⟩
  · exact fun k e => .inl ⟨h.rq.lt k e, h.oq k e⟩
  · intro k hge
    have a := fun e => h4.1.lt k e
    have b := fun e => h5.1.lt k e
    have c := fun e => h.rq.lt k e
    refine ⟨fun e => ⟨fun e1 => ?_, fun e1 => ?_, fun e1 => ?_⟩, fun e => ?_, fun e => ?_⟩
    · have := a e1
      omega
    · have := b e1
      omega
    · have := c e1
      omega
    · have := a e
      omega
    · have := b e
      omega
  · refine K.mono (fun g hg => ?_)
    simp only [List.mem_cons, Option.mem_toList] at hg
    rcases hg with rfl | e
    · exact hpF
    · exact h.ftag g (by rw [h3.2 g e]; omega)
end Go.Proofs.Ytkeffebcmajhmaa
