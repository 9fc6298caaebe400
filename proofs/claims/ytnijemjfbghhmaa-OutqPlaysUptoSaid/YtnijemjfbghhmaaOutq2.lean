/- The queue: Next, Add by contract. -/
import Derived.Test.YtnijemjfbghhmaaOutq1
namespace Go.Proofs.Ytnijemjfbghhmaa
open Go.RowKit
def NewBytes (w : World) (q : List Int) (e : Ending) (w' : World) : Prop := ∃ v, e = .returned v ∧ Row w' 5 1 v q.length (bytesV q) ∧ (∀ k, v.ownBlock = some k → w.heap.size ≤ k) ∧ Keeps [] w w'
theorem next_any (a : Nat) (F : List Nat) (bs : List Int) (ps : List (Int × Int)) (last : Int) (n : Int) (w : World) (h : QRep w a F bs ps last) (hbs : bs.length ≤ 1099511627776) :
    Calls Try.prog 10 #[.pointer (some ⟨a, 0, none⟩), .int .i64 n] w (NewBytes w (bs.take (clip n bs.length))) := by
  have H := hid h
  clear h
  go_enter Try.func10, Try.ntmps10
  go_wp2_with fail
  refine (first_any a F bs ps last n w H.out).mono ?_
  rintro e w1 ⟨A, c, rfl, hc, hk⟩
  go_wp2_with fail
  refine (clone_any _ _ _ hc (by rw [List.length_take]; omega)).mono ?_
  rintro e w2 ⟨v, rfl, hr, hf, hk2⟩
  go_wp2
  go_ret
  exact ⟨v, rfl, hr, fun k e => Nat.le_trans hk.size (hf k e), hk.trans hk2 (by simp)⟩
/-- what the blocks of an object become: old ones, or new. -/
def Later (F : List Nat) (w : World) (F' : List Nat) : Prop := ∀ k ∈ F', k ∈ F ∨ w.heap.size ≤ k
def flat (rows : List (Value × List Int)) : List Int := (rows.map (·.2)).flatten
theorem flat_take (rows : List (Value × List Int)) (k : Nat) (v : Value) (zs : List Int) (h : rows[k]? = some (v, zs)) : flat (rows.take (k + 1)) = flat (rows.take k) ++ zs := by
  unfold flat
  rw [List.take_add_one, h]
  simp
theorem flat_le (rows : List (Value × List Int)) (k : Nat) : (flat (rows.take k)).length ≤ (flat rows).length := by
  have h : flat rows = flat (rows.take k) ++ flat (rows.drop k) := by
    unfold flat
    rw [← List.flatten_append, ← List.map_append, List.take_append_drop]
  rw [h, List.length_append]
  omega
/-- The bytes' row has grown. -/
theorem QRep.setB {w w1 : World} {a : Nat} {vb vp vb' : Value} {bs bs' : List Int} {ps : List (Int × Int)} {last : Int} {F : List Nat}
    (h1 : Blk w a 50 #[vb, vp, .int .i64 last]) (h2 : Row w 5 1 vb bs.length (bytesV bs)) (h3 : Row w 52 2 vp ps.length (piecesV ps))
    (h4 : ∀ k ∈ F, k < w.heap.size) (h5 : a ∈ F) (h6 : ∀ k, vb.ownBlock = some k → k ∈ F) (h7 : ∀ k, vp.ownBlock = some k → k ∈ F)
    (hr : Row w1 5 1 vb' bs'.length (bytesV bs')) (hk : Keeps vb.ownBlock.toList w w1) (ho : ∀ k, vb'.ownBlock = some k → vb.ownBlock = some k ∨ w.heap.size ≤ k) :
    QRep (w1.setCell ⟨a, 0, none⟩ vb') a (F ++ vb'.ownBlock.toList) bs' ps last ∧ Keeps F w (w1.setCell ⟨a, 0, none⟩ vb') ∧ Later F w (F ++ vb'.ownBlock.toList) := by
  have ha : a ∉ vb.ownBlock.toList := fun hx => h2.blk_ne h1 (by decide) a (by simpa using hx) rfl
  have hb1 : Blk w1 a 50 #[vb, vp, .int .i64 last] := h1.keeps hk ha
  have hp1 : Row w1 52 2 vp ps.length (piecesV ps) := h3.keeps hk (fun k e hx => h3.disj h2 (by decide) k e (by simpa using hx))
  refine ⟨⟨vb', vp, hb1.set_ 0 vb', hr.far (fun k e => hr.blk_ne hb1 (by decide) k e) _, hp1.far (fun k e => hp1.blk_ne hb1 (by decide) k e) _, ?_, by simp [h5], fun k e => by simp [e], fun k e => by simp [h7 k e]⟩, ?_, ?_⟩
  · intro k hx
    rw [List.mem_append] at hx
    have hs := hk.size
    rcases hx with hx | hx
    · have := h4 k hx; simp [World.setCell]; omega
    · have := hr.lt k (by simpa using hx); simpa [World.setCell] using this
  · exact (hk.mono (fun g hg => h6 g (by simpa using hg))).setCell (.inl h5) _
  · intro k hx
    rw [List.mem_append] at hx
    rcases hx with hx | hx
    · exact .inl hx
    · rcases ho k (by simpa using hx) with h | h
      · exact .inl (h6 k h)
      · exact .inr h
/-- The pieces' row has turned. -/
theorem QRep.setP {w w1 : World} {a : Nat} {vb vp vp' : Value} {bs : List Int} {ps ps' : List (Int × Int)} {last : Int} {F : List Nat}
    (h1 : Blk w a 50 #[vb, vp, .int .i64 last]) (h2 : Row w 5 1 vb bs.length (bytesV bs)) (h3 : Row w 52 2 vp ps.length (piecesV ps))
    (h4 : ∀ k ∈ F, k < w.heap.size) (h5 : a ∈ F) (h6 : ∀ k, vb.ownBlock = some k → k ∈ F) (h7 : ∀ k, vp.ownBlock = some k → k ∈ F)
    (hr : Row w1 52 2 vp' ps'.length (piecesV ps')) (hk : Keeps vp.ownBlock.toList w w1) (ho : ∀ k, vp'.ownBlock = some k → vp.ownBlock = some k ∨ w.heap.size ≤ k) :
    QRep (w1.setCell ⟨a, 1, none⟩ vp') a (F ++ vp'.ownBlock.toList) bs ps' last ∧ Keeps F w (w1.setCell ⟨a, 1, none⟩ vp') ∧ Later F w (F ++ vp'.ownBlock.toList) := by
  have ha : a ∉ vp.ownBlock.toList := fun hx => h3.blk_ne h1 (by decide) a (by simpa using hx) rfl
  have hb1 : Blk w1 a 50 #[vb, vp, .int .i64 last] := h1.keeps hk ha
  have hp1 : Row w1 5 1 vb bs.length (bytesV bs) := h2.keeps hk (fun k e hx => h2.disj h3 (by decide) k e (by simpa using hx))
  refine ⟨⟨vb, vp', hb1.set_ 1 vp', hp1.far (fun k e => hp1.blk_ne hb1 (by decide) k e) _, hr.far (fun k e => hr.blk_ne hb1 (by decide) k e) _, ?_, by simp [h5], fun k e => by simp [h6 k e], fun k e => by simp [e]⟩, ?_, ?_⟩
  · intro k hx
    rw [List.mem_append] at hx
    have hs := hk.size
    rcases hx with hx | hx
    · have := h4 k hx; simp [World.setCell]; omega
    · have := hr.lt k (by simpa using hx); simpa [World.setCell] using this
  · exact (hk.mono (fun g hg => h7 g (by simpa using hg))).setCell (.inl h5) _
  · intro k hx
    rw [List.mem_append] at hx
    rcases hx with hx | hx
    · exact .inl hx
    · rcases ho k (by simpa using hx) with h | h
      · exact .inl (h7 k h)
      · exact .inr h
theorem Later.trans {F G H : List Nat} {w w' : World} (h : Later F w G) (h' : Later G w' H) (hs : w.heap.size ≤ w'.heap.size) : Later F w H := fun k hk => by
  rcases h' k hk with h1 | h1
  · exact h k h1
  · exact .inr (Nat.le_trans hs h1)
theorem Later.refl (F : List Nat) (w : World) : Later F w F := fun _ h => .inl h
/-- The counter has turned. -/
theorem QRep.setL {w : World} {a : Nat} {F : List Nat} {bs : List Int} {ps : List (Int × Int)} {last : Int} (h : QRep w a F bs ps last) (n : Int) : QRep (w.setCell ⟨a, 2, none⟩ (.int .i64 n)) a F bs ps n := by
  obtain ⟨vb, vp, h1, h2, h3, h4, h5, h6, h7⟩ := h
  exact ⟨vb, vp, h1.set_ 2 _, h2.far (fun k e => h2.blk_ne h1 (by decide) k e) _, h3.far (fun k e => h3.blk_ne h1 (by decide) k e) _, fun k hk => by simpa [World.setCell] using h4 k hk, h5, h6, h7⟩
end Go.Proofs.Ytnijemjfbghhmaa
