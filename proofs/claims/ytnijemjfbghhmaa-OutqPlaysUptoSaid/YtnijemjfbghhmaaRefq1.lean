/- The reference's queue: what it is in memory; Next and Left by contract. -/
import Derived.Test.YtnijemjfbghhmaaRoomy
namespace Go.Proofs.Ytnijemjfbghhmaa
open Go.RowKit
/-- Block x is a reference's queue. -/
def RQ (w : World) (x : Nat) (F : List Nat) (bs es : List Int) (g t : Int) : Prop :=
  ∃ vb ve, Blk w x 41 #[vb, ve, .int .i64 g, .int .i64 t, .int .i64 0] ∧ Row w 5 1 vb bs.length (bytesV bs) ∧ Row w 3 1 ve es.length (intsV es) ∧
    (∀ k ∈ F, k < w.heap.size) ∧ x ∈ F ∧ (∀ k, vb.ownBlock = some k → k ∈ F) ∧ (∀ k, ve.ownBlock = some k → k ∈ F)
theorem RQ.keeps {w w' : World} {x : Nat} {F K : List Nat} {bs es : List Int} {g t : Int} (h : RQ w x F bs es g t) (hk : Keeps K w w') (hd : ∀ k ∈ F, k ∉ K) : RQ w' x F bs es g t := by
  obtain ⟨vb, ve, h1, h2, h3, h4, h5, h6, h7⟩ := h
  exact ⟨vb, ve, h1.keeps hk (hd _ h5), h2.keeps hk (fun k e => hd _ (h6 k e)), h3.keeps hk (fun k e => hd _ (h7 k e)), fun k e => Nat.lt_of_lt_of_le (h4 k e) hk.size, h5, h6, h7⟩
theorem RQ.flt {w : World} {x : Nat} {F : List Nat} {bs es : List Int} {g t : Int} (h : RQ w x F bs es g t) : ∀ k ∈ F, k < w.heap.size := by
  obtain ⟨_, _, _, _, _, h4, _⟩ := h
  exact h4
theorem RQ.zero (w : World) : RQ (w.alloc (.cells #[.slice none 0 0, .slice none 0 0, .int .i64 0, .int .i64 0, .int .i64 0] 41)) w.heap.size [w.heap.size] [] [] 0 0 :=
  ⟨.slice none 0 0, .slice none 0 0, Blk.new _ _ _, Row.nil _ _ _, Row.nil _ _ _, by simp, by simp, by simp [Value.ownBlock], by simp [Value.ownBlock]⟩
/-- The bytes' row has turned. -/
theorem RQ.setB {w w1 : World} {x : Nat} {vb ve vb' : Value} {bs bs' es : List Int} {g t : Int} {F : List Nat}
    (h1 : Blk w x 41 #[vb, ve, .int .i64 g, .int .i64 t, .int .i64 0]) (h2 : Row w 5 1 vb bs.length (bytesV bs)) (h3 : Row w 3 1 ve es.length (intsV es))
    (h4 : ∀ k ∈ F, k < w.heap.size) (h5 : x ∈ F) (h6 : ∀ k, vb.ownBlock = some k → k ∈ F) (h7 : ∀ k, ve.ownBlock = some k → k ∈ F)
    (hr : Row w1 5 1 vb' bs'.length (bytesV bs')) (hk : Keeps vb.ownBlock.toList w w1) (ho : ∀ k, vb'.ownBlock = some k → vb.ownBlock = some k ∨ w.heap.size ≤ k) :
    RQ (w1.setCell ⟨x, 0, none⟩ vb') x (F ++ vb'.ownBlock.toList) bs' es g t ∧ Keeps F w (w1.setCell ⟨x, 0, none⟩ vb') ∧ Later F w (F ++ vb'.ownBlock.toList) := by
  have ha : x ∉ vb.ownBlock.toList := fun hx => h2.blk_ne h1 (by decide) x (by simpa using hx) rfl
  have hb1 : Blk w1 x 41 #[vb, ve, .int .i64 g, .int .i64 t, .int .i64 0] := h1.keeps hk ha
  have hp1 : Row w1 3 1 ve es.length (intsV es) := h3.keeps hk (fun k e hx => h3.disj h2 (by decide) k e (by simpa using hx))
  refine ⟨⟨vb', ve, hb1.set_ 0 vb', hr.far (fun k e => hr.blk_ne hb1 (by decide) k e) _, hp1.far (fun k e => hp1.blk_ne hb1 (by decide) k e) _, ?_, by simp [h5], fun k e => by simp [e], fun k e => by simp [h7 k e]⟩, ?_, ?_⟩
  · intro k hx
    rw [List.mem_append] at hx
    have hs := hk.size
    rcases hx with hx | hx
    · have := h4 k hx; simp [World.setCell]; omega
    · have := hr.lt k (by simpa using hx); simpa [World.setCell] using this
  · exact (hk.mono (fun g hg => h6 g (by simpa using hg))).setCell (.inl h5) _
  · intro k hx
    rw [List.mem_append] at hx
    rcases hx with hx | hx
    · exact .inl hx
    · rcases ho k (by simpa using hx) with h | h
      · exact .inl (h6 k h)
      · exact .inr h
/-- The ends' row has turned. -/
theorem RQ.setE {w w1 : World} {x : Nat} {vb ve ve' : Value} {bs es es' : List Int} {g t : Int} {F : List Nat}
    (h1 : Blk w x 41 #[vb, ve, .int .i64 g, .int .i64 t, .int .i64 0]) (h2 : Row w 5 1 vb bs.length (bytesV bs)) (h3 : Row w 3 1 ve es.length (intsV es))
    (h4 : ∀ k ∈ F, k < w.heap.size) (h5 : x ∈ F) (h6 : ∀ k, vb.ownBlock = some k → k ∈ F) (h7 : ∀ k, ve.ownBlock = some k → k ∈ F)
    (hr : Row w1 3 1 ve' es'.length (intsV es')) (hk : Keeps ve.ownBlock.toList w w1) (ho : ∀ k, ve'.ownBlock = some k → ve.ownBlock = some k ∨ w.heap.size ≤ k) :
    RQ (w1.setCell ⟨x, 1, none⟩ ve') x (F ++ ve'.ownBlock.toList) bs es' g t ∧ Keeps F w (w1.setCell ⟨x, 1, none⟩ ve') ∧ Later F w (F ++ ve'.ownBlock.toList) := by
  have ha : x ∉ ve.ownBlock.toList := fun hx => h3.blk_ne h1 (by decide) x (by simpa using hx) rfl
  have hb1 : Blk w1 x 41 #[vb, ve, .int .i64 g, .int .i64 t, .int .i64 0] := h1.keeps hk ha
  have hp1 : Row w1 5 1 vb bs.length (bytesV bs) := h2.keeps hk (fun k e hx => h2.disj h3 (by decide) k e (by simpa using hx))
  refine ⟨⟨vb, ve', hb1.set_ 1 ve', hp1.far (fun k e => hp1.blk_ne hb1 (by decide) k e) _, hr.far (fun k e => hr.blk_ne hb1 (by decide) k e) _, ?_, by simp [h5], fun k e => by simp [h6 k e], fun k e => by simp [e]⟩, ?_, ?_⟩
  · intro k hx
    rw [List.mem_append] at hx
    have hs := hk.size
    rcases hx with hx | hx
    · have := h4 k hx; simp [World.setCell]; omega
    · have := hr.lt k (by simpa using hx); simpa [World.setCell] using this
  · exact (hk.mono (fun g hg => h7 g (by simpa using hg))).setCell (.inl h5) _
  · intro k hx
    rw [List.mem_append] at hx
    rcases hx with hx | hx
    · exact .inl hx
    · rcases ho k (by simpa using hx) with h | h
      · exact .inl (h7 k h)
      · exact .inr h
theorem RQ.setG {w : World} {x : Nat} {F : List Nat} {bs es : List Int} {g t : Int} (h : RQ w x F bs es g t) (n : Int) : RQ (w.setCell ⟨x, 2, none⟩ (.int .i64 n)) x F bs es n t := by
  obtain ⟨vb, vp, h1, h2, h3, h4, h5, h6, h7⟩ := h
  exact ⟨vb, vp, h1.set_ 2 _, h2.far (fun k e => h2.blk_ne h1 (by decide) k e) _, h3.far (fun k e => h3.blk_ne h1 (by decide) k e) _, fun k hk => by simpa [World.setCell] using h4 k hk, h5, h6, h7⟩
theorem RQ.setT {w : World} {x : Nat} {F : List Nat} {bs es : List Int} {g t : Int} (h : RQ w x F bs es g t) (n : Int) : RQ (w.setCell ⟨x, 3, none⟩ (.int .i64 n)) x F bs es g n := by
  obtain ⟨vb, vp, h1, h2, h3, h4, h5, h6, h7⟩ := h
  exact ⟨vb, vp, h1.set_ 3 _, h2.far (fun k e => h2.blk_ne h1 (by decide) k e) _, h3.far (fun k e => h3.blk_ne h1 (by decide) k e) _, fun k hk => by simpa [World.setCell] using h4 k hk, h5, h6, h7⟩
theorem rlen (x : Nat) (F : List Nat) (bs es : List Int) (g t : Int) (w : World) (h : RQ w x F bs es g t) : ∃ A c, w.cell? ⟨x, 0, none⟩ = some (.slice A bs.length c) ∧ CellsIn w [] (.slice A bs.length c) (bytesV bs) := by
  obtain ⟨vb, ve, h1, h2, -⟩ := h
  obtain ⟨A, c, rfl, -⟩ := h2.form
  exact ⟨A, c, by simpa using h1.cell 0, h2.cellsIn (by simp)⟩
/-- what grows a new row leaves alone, and where the row lies. -/
theorem before_new {w W w2 : World} {v2 : Value} (h : Keeps [] w W) (hk : Keeps (Value.slice (some ⟨w.heap.size, 0, none⟩) 0 0).ownBlock.toList W w2)
    (ho : ∀ k, v2.ownBlock = some k → (Value.slice (some ⟨w.heap.size, 0, none⟩) 0 0).ownBlock = some k ∨ W.heap.size ≤ k) : Keeps [] w w2 ∧ ∀ k, v2.ownBlock = some k → w.heap.size ≤ k :=
  ⟨h.trans hk (by simp [Value.ownBlock]), fun k hk' => by
    rcases ho k hk' with h1 | h1
    · simp [Value.ownBlock] at h1
      omega
    · exact Nat.le_trans h.size h1⟩
set_option maxHeartbeats 1000000 in
theorem rnext_any (x : Nat) (F : List Nat) (bs es : List Int) (g t : Int) (n : Int) (w : World) (h : RQ w x F bs es g t) (hbs : bs.length ≤ 1099511627776) :
    Calls Try.prog 23 #[.pointer (some ⟨x, 0, none⟩), .int .i64 n] w (NewBytes w (bs.take (clip n bs.length))) := by
  obtain ⟨i0, hi0, hz0, hz1, hz2⟩ := info_parts byte_info
  obtain ⟨vb, ve, h1, h2, -⟩ := h
  have HC := hid (h2.cellsIn (F := []) (by simp))
  have B1 := hid h1
  obtain ⟨A, c, rfl, hc1, hc2, -, -⟩ := h2.form
  have c0 := h1.cell 0
  simp at c0
  have n1 : ∀ o : Obj, (w.alloc o).cell? ⟨x, 0, none⟩ = some (.slice A bs.length c) := fun o => by simpa using (B1.out.alloc o).cell 0
  have hcl := clip_le n bs.length
  obtain ⟨N, hN⟩ : ∃ N, (if (bs.length : Int) < n then (bs.length : Int) else n) = N := ⟨_, rfl⟩
  have hM : (if (0 : Int) < N then N else 0) = clip n bs.length := by
    subst hN
    unfold clip
    split <;> split <;> split <;> omega
  obtain ⟨k, hk⟩ : ∃ k, clip n bs.length = k := ⟨_, rfl⟩
  rw [hk] at hM hcl
  rw [hk]
  have HR : Hid (Reads w 1 A k (bytesV (bs.take k))) := by
    have h := (HC.out.take (k := k) hcl).reads.2
    simpa [bytesV] using hid h
  have hlk : (bs.take k).length = k := by rw [List.length_take]; omega
  have HLK := hid hlk
  have HN := hid hN
  have hkc : (k : Int) ≤ c := by omega
  have hkb : k ≤ 1099511627776 := by omega
  clear h1 h2 hk hlk
  go_enter Try.func23, Try.ntmps23
  go_wp2_with fail
  go_region_law (first
    | (refine step_append_row _ (by rfl) _ _ _ (by rfl) 5 i0 _ 1 1 Try.underlying24 hi0 hz0 hz1 hz2 rfl (by omega) (.slice (some ⟨w.heap.size, 0, none⟩) 0 0) 0 [] (by rfl) (Row.empty _ _) A k c _ (by rfl) (by exact HR.out.alloc _) (bytesV_one _) (by simp only [maxLen]; omega) (by omega) ?_; intro v2 w2 hv2 hk2 ho2; have hk3 := before_new (w := w) (by repeat (first | exact Keeps.refl _ _ | apply Keeps.alloc | apply Keeps.drewN | apply Keeps.drew)) hk2 ho2; have HV2 := hid hv2; have HK3 := hid hk3; clear hv2 hk2 ho2 hk3))
  all_goals
    go_wp2
    go_ret
    refine ⟨_, rfl, ?_, HK3.out.2, HK3.out.1⟩
    have h := HV2.out
    rw [Nat.zero_add, List.nil_append] at h
    rw [HLK.out]
    exact h
end Go.Proofs.Ytnijemjfbghhmaa
