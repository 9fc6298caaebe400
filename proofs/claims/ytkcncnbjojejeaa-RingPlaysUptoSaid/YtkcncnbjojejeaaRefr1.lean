/- The reference's ring: what it is in memory; New, Room, Find, Peek, Skip by contract. -/
import Derived.Test.YtkcncnbjojejeaaRoomy3
namespace Go.Proofs.Ytkcncnbjojejeaa
open Go.RowKit
set_option linter.unusedVariables false
def Later (F : List Nat) (w : World) (F' : List Nat) : Prop := ∀ k ∈ F', k ∈ F ∨ w.heap.size ≤ k
theorem Later.trans {F G H : List Nat} {w w' : World} (h : Later F w G) (h' : Later G w' H) (hs : w.heap.size ≤ w'.heap.size) : Later F w H := fun k hk => by
  rcases h' k hk with h1 | h1
  · exact h k h1
  · exact .inr (by omega)
theorem Later.refl (F : List Nat) (w : World) : Later F w F := fun _ h => .inl h
theorem alloc_cell {w : World} {p : Addr} {v : Value} (h : w.cell? p = some v) (o : Obj) : (w.alloc o).cell? p = some v :=
  (World.cell?_of_block (w := w) (Below.heap_alloc w o _ (World.block_lt_of_cell? w p h))).trans h
theorem drew_cell {w : World} {p : Addr} {v : Value} (h : w.cell? p = some v) : w.drew.cell? p = some v := h
theorem drewN_cell {w : World} {p : Addr} {v : Value} (h : w.cell? p = some v) (n : Nat) : (w.drewN n).cell? p = some v := h
theorem Blk.newAt {w : World} {t : TypeId} {cs : Array Value} {H : Nat} (h : w.heap.size = H) : Blk (w.alloc (.cells cs t)) H t cs := by
  subst h
  exact Blk.new w t cs
/-- what grows a new row leaves alone, and where the row lies. -/
theorem before_new {w W w2 : World} {v2 : Value} (h : Keeps [] w W) (hk : Keeps (Value.slice (some ⟨w.heap.size, 0, none⟩) 0 0).ownBlock.toList W w2)
    (ho : ∀ k, v2.ownBlock = some k → (Value.slice (some ⟨w.heap.size, 0, none⟩) 0 0).ownBlock = some k ∨ W.heap.size ≤ k) : Keeps [] w w2 ∧ ∀ k, v2.ownBlock = some k → w.heap.size ≤ k :=
  ⟨h.trans hk (by simp [Value.ownBlock]), fun k hk' => by
    rcases ho k hk' with h1 | h1
    · simp [Value.ownBlock] at h1
      omega
    · exact Nat.le_trans h.size h1⟩
def RR (w : World) (x : Nat) (F : List Nat) (S : Nat) (bs : List Int) : Prop :=
  ∃ vb, Blk w x 44 #[.int .i64 S, vb] ∧ Row w 5 1 vb bs.length (bytesV bs) ∧ (∀ k ∈ F, k < w.heap.size) ∧ x ∈ F ∧ (∀ k, vb.ownBlock = some k → k ∈ F)
theorem RR.keeps {w w' : World} {x S : Nat} {F K : List Nat} {bs : List Int} (h : RR w x F S bs) (hk : Keeps K w w') (hd : ∀ k ∈ F, k ∉ K) : RR w' x F S bs := by
  obtain ⟨vb, h1, h2, h4, h5, h6⟩ := h
  exact ⟨vb, h1.keeps hk (hd _ h5), h2.keeps hk (fun k e => hd _ (h6 k e)), fun k e => Nat.lt_of_lt_of_le (h4 k e) hk.size, h5, h6⟩
theorem RR.flt {w : World} {x S : Nat} {F : List Nat} {bs : List Int} (h : RR w x F S bs) : ∀ k ∈ F, k < w.heap.size := by
  obtain ⟨_, _, _, h4, _⟩ := h
  exact h4
theorem RR.setB {w w1 : World} {x S : Nat} {vb vb' : Value} {bs bs' : List Int} {F : List Nat}
    (h1 : Blk w x 44 #[.int .i64 S, vb]) (h2 : Row w 5 1 vb bs.length (bytesV bs)) (h4 : ∀ k ∈ F, k < w.heap.size) (h5 : x ∈ F) (h6 : ∀ k, vb.ownBlock = some k → k ∈ F)
    (hr : Row w1 5 1 vb' bs'.length (bytesV bs')) (hk : Keeps vb.ownBlock.toList w w1) (ho : ∀ k, vb'.ownBlock = some k → vb.ownBlock = some k ∨ w.heap.size ≤ k) :
    RR (w1.setCell ⟨x, 1, none⟩ vb') x (F ++ vb'.ownBlock.toList) S bs' ∧ Keeps F w (w1.setCell ⟨x, 1, none⟩ vb') ∧ Later F w (F ++ vb'.ownBlock.toList) := by
  have ha : x ∉ vb.ownBlock.toList := fun hx => h2.blk_ne h1 (by decide) x (by simpa using hx) rfl
  have hb1 : Blk w1 x 44 #[.int .i64 S, vb] := h1.keeps hk ha
  refine ⟨⟨vb', hb1.set_ 1 vb', hr.far (fun k e => hr.blk_ne hb1 (by decide) k e) _, ?_, by simp [h5], fun k e => by simp [e]⟩, ?_, ?_⟩
  · intro k hx
    rw [List.mem_append] at hx
    have hs := hk.size
    rcases hx with hx | hx
    · have := h4 k hx; simp [World.setCell]; omega
    · have := hr.lt k (by simpa using hx); simpa [World.setCell] using this
  · exact (hk.mono (fun g hg => h6 g (by simpa using hg))).setCell (.inl h5) _
  · intro k hx
    rw [List.mem_append] at hx
    rcases hx with hx | hx
    · exact .inl hx
    · rcases ho k (by simpa using hx) with h | h
      · exact .inl (h6 k h)
      · exact .inr h
theorem rrnew_bad (n : Int) (w : World) (h : n < 1 ∨ (1 ≤ n ∧ 65536 < n)) :
    Calls Try.prog 15 #[.int .i64 n] w fun e w' => e = .returned (.tuple #[.pointer none, .int .i64 1]) ∧ w = w' := by
  rcases h with h | ⟨h0, h⟩
  all_goals
    go_enter Try.func15, Try.ntmps15
    go_wp2
    go_ret2
    exact ⟨rfl, rfl⟩
theorem rrnew_ok (S : Nat) (w : World) (h1 : 1 ≤ S) (h2 : S ≤ 65536) :
    Calls Try.prog 15 #[.int .i64 S] w fun e w' => e = .returned (.tuple #[.pointer (some ⟨w.heap.size, 0, none⟩), .int .i64 0]) ∧ RR w' w.heap.size [w.heap.size] S [] ∧ Keeps [] w w' := by
  have h1' : ¬ (S : Int) < 1 := by omega
  have h2' : ¬ (65536 : Int) < S := by omega
  go_enter Try.func15, Try.ntmps15
  go_wp2
  go_ret2
  exact ⟨rfl, ⟨.slice none 0 0, Blk.new _ _ _, Row.nil _ _ _, by simp, by simp, by simp [Value.ownBlock]⟩, (Keeps.refl [] w).alloc _⟩
theorem rroom_any (x S : Nat) (F : List Nat) (bs : List Int) (w : World) (h : RR w x F S bs) (hS : S ≤ 65536) (hb : bs.length ≤ S) :
    Calls Try.prog 30 #[.pointer (some ⟨x, 0, none⟩)] w fun e w' => e = .returned (.int .i64 ((S : Int) - bs.length)) ∧ Keeps [] w w' := by
  obtain ⟨vb, h1, h2, -⟩ := h
  obtain ⟨A, c, rfl, -⟩ := h2.form
  have c0 := h1.cell 0
  have c1 := h1.cell 1
  simp at c0 c1
  clear h1 h2
  go_enter Try.func30, Try.ntmps30
  go_wp2_with fail
  go_quiet (fail)
  go_wp2
  go_ret
  exact ⟨rfl, (Keeps.refl _ _).drewN _⟩
theorem rfind_any (x S : Nat) (F : List Nat) (bs : List Int) (c : Int) (w : World) (h : RR w x F S bs) (hb : bs.length ≤ 65536) :
    Calls Try.prog 27 #[.pointer (some ⟨x, 0, none⟩), .int .u8 c] w fun e w' => e = .returned (.int .i64 (findI c bs)) ∧ Keeps [] w w' := by
  obtain ⟨vb, h1, h2, -⟩ := h
  have HC := hid (h2.cellsIn (F := []) (by simp))
  obtain ⟨A, cc, rfl, -⟩ := h2.form
  have c1 := h1.cell 1
  simp at c1
  clear h1 h2
  go_enter Try.func27, Try.ntmps27
  go_wp2_with fail
  go_loop [5] (fun i => ∃ k : Nat, k ≤ bs.length ∧ i = .int .i64 k ∧ ∀ j, j < k → bs.getD j 0 ≠ c) (fun i => bs.length - (intOf i).toNat)
  case atStart => exact ⟨0, Nat.zero_le _, rfl, by omega⟩
  case round =>
    obtain ⟨k, hk, rfl, hno⟩ := hrel
    have HNO := hid hno
    clear hno
    by_cases hlt : k < bs.length
    · obtain ⟨b, o, rfl, -, hc⟩ := HC.out.at_ (by simp [bytesV]; omega)
      have hcell := hc k (.int .u8 (bs.getD k 0)) (by simp [bytesV, List.getD_eq_getElem?_getD, hlt])
      have hki : (k : Int) < bs.length := by omega
      obtain ⟨y, hy⟩ : ∃ y, bs.getD k 0 = y := ⟨_, rfl⟩
      rw [hy] at hcell
      have HY := hid hy
      clear hc hy
      by_cases hyc : y = c
      · subst hyc
        have HF := hid (findI_hit hlt HY.out HNO.out)
        go_wp2
        go_ret
        rw [HF.out]
        exact ⟨rfl, Keeps.refl _ _⟩
      · have hne : (y == c) = false := by simp [hyc]
        have HX := hid hyc
        clear hyc
        go_wp2
        go_round
        case rel =>
          refine ⟨k + 1, by omega, by go_num, fun j hj => ?_⟩
          by_cases hjk : j = k
          · subst hjk
            rw [HY.out]
            exact HX.out
          · exact HNO.out j (by omega)
        case measure => simp [intOf] <;> omega
    · have hkl : k = bs.length := by omega
      subst hkl
      have HF := hid (findI_miss HNO.out)
      go_wp2
      go_ret
      rw [HF.out]
      exact ⟨rfl, Keeps.refl _ _⟩
set_option maxHeartbeats 1000000 in
theorem rpeek_any (x S : Nat) (F : List Nat) (bs : List Int) (n : Int) (w : World) (h : RR w x F S bs) (hbs : bs.length ≤ 65536) :
    Calls Try.prog 25 #[.pointer (some ⟨x, 0, none⟩), .int .i64 n] w (NewBytes w (bs.take (clip n bs.length))) := by
  obtain ⟨i0, hi0, hz0, hz1, hz2⟩ := info_parts byte_info
  obtain ⟨vb, h1, h2, -⟩ := h
  have HC := hid (h2.cellsIn (F := []) (by simp))
  have B1 := hid h1
  obtain ⟨A, c, rfl, hc1, hc2, -, -⟩ := h2.form
  have c0 := h1.cell 1
  simp at c0
  have n1 : ∀ o : Obj, (w.alloc o).cell? ⟨x, 1, none⟩ = some (.slice A bs.length c) := fun o => by simpa using (B1.out.alloc o).cell 1
  have hcl := clip_le n bs.length
  obtain ⟨N, hN⟩ : ∃ N, (if (bs.length : Int) < n then (bs.length : Int) else n) = N := ⟨_, rfl⟩
  have hM : (if (0 : Int) < N then N else 0) = clip n bs.length := by
    subst hN
    unfold clip
    split <;> split <;> split <;> omega
  obtain ⟨k, hk⟩ : ∃ k, clip n bs.length = k := ⟨_, rfl⟩
  rw [hk] at hM hcl
  rw [hk]
  have HR : Hid (Reads w 1 A k (bytesV (bs.take k))) := by
    have h := (HC.out.take (k := k) hcl).reads.2
    simpa [bytesV] using hid h
  have hlk : (bs.take k).length = k := by rw [List.length_take]; omega
  have HLK := hid hlk
  have HN := hid hN
  have hkc : (k : Int) ≤ c := by omega
  have hkb : k ≤ 1099511627776 := by omega
  clear h1 h2 hk hlk
  go_enter Try.func25, Try.ntmps25
  go_wp2_with fail
  go_region_law (first
    | (refine step_append_row _ (by rfl) _ _ _ (by rfl) 5 i0 _ 1 1 Try.underlying32 hi0 hz0 hz1 hz2 rfl (by omega) (.slice (some ⟨w.heap.size, 0, none⟩) 0 0) 0 [] (by rfl) (Row.empty _ _) A k c _ (by rfl) (by exact HR.out.alloc _) (bytesV_one _) (by simp only [maxLen]; omega) (by omega) ?_; intro v2 w2 hv2 hk2 ho2; have hk3 := before_new (w := w) (by repeat (first | exact Keeps.refl _ _ | apply Keeps.alloc | apply Keeps.drewN | apply Keeps.drew)) hk2 ho2; have HV2 := hid hv2; have HK3 := hid hk3; clear hv2 hk2 ho2 hk3))
  all_goals
    go_wp2
    go_ret
    refine ⟨_, rfl, ?_, HK3.out.2, HK3.out.1⟩
    have h := HV2.out
    rw [Nat.zero_add, List.nil_append] at h
    rw [HLK.out]
    exact h
def RSkip (x S : Nat) (F : List Nat) (bs : List Int) (k : Nat) (w : World) (e : Ending) (w' : World) : Prop :=
  e = .returned (.int .i64 k) ∧ (∃ F', RR w' x F' S (bs.drop k) ∧ Later F w F') ∧ Keeps F w w'
set_option maxRecDepth 100000 in
set_option maxHeartbeats 2000000 in
theorem rskip_any (x S : Nat) (F : List Nat) (bs : List Int) (n : Int) (w : World) (h : RR w x F S bs) (hbs : bs.length ≤ 65536) :
    Calls Try.prog 22 #[.pointer (some ⟨x, 0, none⟩), .int .i64 n] w (RSkip x S F bs (clip n bs.length) w) := by
  obtain ⟨i0, hi0, hz0, hz1, hz2⟩ := info_parts byte_info
  obtain ⟨vb, b1, b2, b4, b5, b6⟩ := h
  have HC := hid (b2.cellsIn (F := []) (by simp))
  obtain ⟨A, c, rfl, hc1, hc2, -, -⟩ := b2.form
  have c0 := b1.cell 1
  simp at c0
  have B1 := hid b1
  have n1 : ∀ o : Obj, (w.alloc o).cell? ⟨x, 1, none⟩ = some (.slice A bs.length c) := fun o => by simpa using (B1.out.alloc o).cell 1
  have hcl := clip_le n bs.length
  obtain ⟨N, hN⟩ : ∃ N, (if (bs.length : Int) < n then (bs.length : Int) else n) = N := ⟨_, rfl⟩
  have hM : (if (0 : Int) < N then N else 0) = clip n bs.length := by
    subst hN
    unfold clip
    split <;> split <;> split <;> omega
  obtain ⟨k, hk⟩ : ∃ k, clip n bs.length = k := ⟨_, rfl⟩
  rw [hk] at hM hcl
  rw [hk]
  have HR : Hid (Reads w 1 (cutA A k c 1) (bs.length - k) (bytesV (bs.drop k))) := by
    have h := (HC.out.cut (lo := k) (hi := bs.length) hcl (Nat.le_refl _)).reads.2
    have e1 : ((bytesV bs).drop k).take (bs.length - k) = bytesV (bs.drop k) := by
      rw [List.take_of_length_le (by simp [bytesV])]
      simp [bytesV]
    rw [e1] at h
    exact hid h
  have HN := hid hN
  have hsl := fun wx => run_cut_lo (P := Try.prog) wx 32 5 i0 1 Try.underlying32 hi0 hz1 A bs.length c k (k : Int) rfl .i64 hcl
  have hkb : (k : Int) ≤ bs.length := by omega
  have B2 := hid b2
  have B4 := hid b4
  have B6 := hid b6
  have hxlt : x < w.heap.size := b4 x b5
  clear b1 b2 b4 b6 hk
  go_enter Try.func22, Try.ntmps22
  go_wp2_with (at_builtin; refine wpList_append_row _ rfl (.tmp 14) (.tmp 20) _ rfl 5 i0 _ 1 1 Try.underlying32 hi0 hz0 hz1 hz2 rfl (by omega) (.slice (some ⟨w.heap.size, 0, none⟩) 0 0) 0 [] rfl (Row.empty w _) _ (bs.length - k) (c - k) _ rfl (HR.out.alloc _) (bytesV_one _) (by simp only [maxLen]; omega) (by omega) ?_; intro v1 w1 hv1 hk1 ho1; rw [Nat.zero_add, List.nil_append] at hv1; obtain ⟨A1, q1, rfl, -⟩ := hv1.form; have hk3 := before_new (w := w) ((Keeps.refl [] w).alloc _) hk1 ho1; have hb1 := B1.out.keeps hk3.1 (by simp); have d0 := hb1.cell 1; have f0 := hb1.frozen 1; simp at d0; have HV1 := hid hv1; have HK3 := hid hk3; clear hv1 hk1 ho1 hk3 hb1)
  go_ret
  have hv := HV1.out
  rw [← List.length_drop] at hv
  have hs := RR.setB B1.out B2.out B4.out b5 B6.out hv (HK3.out.1.mono (by simp)) (fun j hj => .inr (HK3.out.2 j (by rw [← List.length_drop]; exact hj)))
  rw [List.length_drop] at hs
  exact ⟨rfl, ⟨_, hs.1, hs.2.2⟩, hs.2.1⟩
end Go.Proofs.Ytkcncnbjojejeaa
