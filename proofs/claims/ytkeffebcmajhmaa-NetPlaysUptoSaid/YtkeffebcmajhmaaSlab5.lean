/- The slab: Put of a new slot. -/
import Derived.Test.YtkeffebcmajhmaaSlab4
namespace Go.Proofs.Ytkeffebcmajhmaa
open Go.RowKit
set_option linter.unusedVariables false
theorem Blk.newAt {w : World} {t : TypeId} {cs : Array Value} {H : Nat} (h : w.heap.size = H) : Blk (w.alloc (.cells cs t)) H t cs := by
  subst h
  exact Blk.new w t cs
theorem reads_blk3 {w : World} {g : Nat} {t : TypeId} {u v x : Value} (h : Blk w g t #[u, v, x]) : Reads w 3 (some ⟨g, 0, none⟩) 1 [u, v, x] :=
  ⟨rfl, fun _ => ⟨_, rfl, fun j y hj => by
    rw [Addr.add_lit, Nat.zero_add, h.cell]
    simpa using hj⟩⟩
theorem slotsV_snoc (L : List Slot) (g : Int) (u : Bool) (v : Int) : slotsV L ++ [.int .i64 g, .bool u, .int .i64 v] = slotsV (L ++ [(g, u, v)]) := by simp [slotsV]
/-- what the stores of Put leave, in any world. -/
theorem put_at {W : World} {s b off cap j r m : Nat} {F : List Nat} {lim n : Int} {L : List Slot} {d : Slot} (h : SRep W s F lim L n) (hs : s ∈ F) (hb : b ∈ F) (hd : L[j]? = some d)
    (hv : W.cell? ⟨s, 1, none⟩ = some (.slice (some ⟨b, off, none⟩) L.length cap)) (v : Int) (hr : r ∉ F) {x y : Value} :
    SRep (((((((W.drewN m).setCell ⟨b, off + j * 3, none⟩ (.int .i64 (d.1 + 1))).setCell ⟨b, off + j * 3 + 1, none⟩ (.bool true)).setCell ⟨b, off + j * 3 + 2, none⟩ (.int .i64 v)).setCell ⟨s, 2, none⟩ (.int .i64 (n + 1))).setCell ⟨r, 0, none⟩ x).setCell ⟨r, 1, none⟩ y) s F lim (L.set j (d.1 + 1, true, v)) (n + 1) := by
  have h0 : SRep (W.drewN m) s F lim L n := h.keeps ((Keeps.refl [] W).drewN m) (by simp)
  obtain ⟨-, -, -, -, -, hst⟩ := h0.stores hv hd
  have h1 := (hst (d.1 + 1, true, v)).setN (n + 1)
  have hw : ∀ k ∈ F, k ∉ [r] := fun k hk hx => by
    simp at hx
    subst hx
    exact hr hk
  exact h1.keeps (((Keeps.refl [r] _).setCell (p := ⟨r, 0, none⟩) (.inl (by simp)) x).setCell (p := ⟨r, 1, none⟩) (.inl (by simp)) y) hw
theorem put_new_done {w w2 : World} {s b2 off2 q2 nq cap : Nat} {A : Option Addr} {F : List Nat} {lim n v : Int} {L : List Slot} (h : SRep w s F lim L n) (hsF : s ∈ F) (g5 : ∀ k, (Value.slice A L.length cap).ownBlock = some k → k ∈ F)
    (hk2 : Keeps (Value.slice A L.length cap).ownBlock.toList (((w.alloc (.cells #[.int .i64 0, .int .i64 0] 30)).drewN nq).alloc (.cells #[.int .i64 0, .bool false, .int .i64 0] 136)) w2)
    (ho2 : ∀ k, (Value.slice (some ⟨b2, off2, none⟩) (L.length + 1) q2).ownBlock = some k → (Value.slice A L.length cap).ownBlock = some k ∨ (((w.alloc (.cells #[.int .i64 0, .int .i64 0] 30)).drewN nq).alloc (.cells #[.int .i64 0, .bool false, .int .i64 0] 136)).heap.size ≤ k)
    (hv2 : Row w2 136 3 (.slice (some ⟨b2, off2, none⟩) (L.length + 1) q2) (L.length + 1) (slotsV L ++ [.int .i64 0, .bool false, .int .i64 0])) (bs2 : Blk w2 s 134 #[.int .i64 lim, .slice A L.length cap, .int .i64 n]) (hb2 : b2 < w2.heap.size)
    (hnr : b2 ≠ w.heap.size) (k1 : w2.cell? ⟨s, 1, none⟩ = some (.slice A L.length cap)) :
    (∃ F', SRep ((((((((w2.setCell ⟨s, 1, none⟩ (.slice (some ⟨b2, off2, none⟩) (L.length + 1) q2)).setCell ⟨b2, off2 + L.length * 3, none⟩ (.int .i64 1)).setCell ⟨b2, off2 + L.length * 3 + 1, none⟩ (.bool true)).setCell ⟨b2, off2 + L.length * 3 + 2, none⟩ (.int .i64 v)).setCell ⟨s, 2, none⟩ (.int .i64 (n + 1))).setCell ⟨w.heap.size, 0, none⟩ (.int .i64 L.length)).setCell ⟨w.heap.size, 1, none⟩ (.int .i64 1)).drew) s F' lim (L ++ [(1, true, v)]) (n + 1) ∧ Later F w F') ∧
      Keeps F w ((((((((w2.setCell ⟨s, 1, none⟩ (.slice (some ⟨b2, off2, none⟩) (L.length + 1) q2)).setCell ⟨b2, off2 + L.length * 3, none⟩ (.int .i64 1)).setCell ⟨b2, off2 + L.length * 3 + 1, none⟩ (.bool true)).setCell ⟨b2, off2 + L.length * 3 + 2, none⟩ (.int .i64 v)).setCell ⟨s, 2, none⟩ (.int .i64 (n + 1))).setCell ⟨w.heap.size, 0, none⟩ (.int .i64 L.length)).setCell ⟨w.heap.size, 1, none⟩ (.int .i64 1)).drew) := by
  have hv := hv2
  rw [slotsV_snoc L 0 false 0, show L.length + 1 = (L ++ [((0 : Int), false, (0 : Int))]).length by simp] at hv
  have hfr : ∀ k ∈ F, k < w.heap.size := h.flt
  have hbF : b2 ∈ F ∨ w.heap.size + 2 ≤ b2 := by
    rcases ho2 b2 rfl with h | h
    · exact .inl (g5 b2 h)
    · right
      simpa using h
  have hsz := hk2.size
  simp at hsz
  have hS : SRep (w2.setCell ⟨s, 1, none⟩ (.slice (some ⟨b2, off2, none⟩) (L ++ [((0 : Int), false, (0 : Int))]).length q2)) s (b2 :: F) lim (L ++ [((0 : Int), false, (0 : Int))]) n := by
    refine ⟨_, bs2.set_ 1 _, hv.far (p := ⟨s, 1, none⟩) (fun k hk => hv.blk_ne bs2 (by decide) k hk) _, fun k hk => ?_, by simp [hsF], fun k hk => ?_⟩
    · rcases List.mem_cons.1 hk with rfl | hk
      · simpa [World.setCell] using hb2
      · have h1 := hfr k hk
        simp [World.setCell]
        omega
    · simp [Value.ownBlock] at hk
      simp [hk]
  have hrF : w.heap.size ∉ b2 :: F := fun hx => by
    rcases List.mem_cons.1 hx with h | h
    · exact hnr h.symm
    · have := hfr _ h
      omega
  have hb : b2 ∈ F ∨ w.heap.size ≤ b2 := by
    rcases hbF with h | h
    · exact .inl h
    · exact .inr (by omega)
  have hc : (w2.setCell ⟨s, 1, none⟩ (.slice (some ⟨b2, off2, none⟩) (L ++ [((0 : Int), false, (0 : Int))]).length q2)).cell? ⟨s, 1, none⟩ = some (.slice (some ⟨b2, off2, none⟩) (L ++ [((0 : Int), false, (0 : Int))]).length q2) := by
    rw [(bs2.set_ 1 _).cell 1]
    rfl
  refine ⟨⟨b2 :: F, ?_, fun k hk => ?_⟩, ?_⟩
  · have h3 := put_at (m := 0) hS (by simp [hsF]) (by simp) (j := L.length) (d := (0, false, 0)) (by simp) hc v hrF (x := .int .i64 L.length) (y := .int .i64 1)
    have e : (L ++ [((0 : Int), false, (0 : Int))]).set L.length (0 + 1, true, v) = L ++ [(1, true, v)] := by
      rw [List.set_append_right _ _ (Nat.le_refl _)]
      simp
    rw [e] at h3
    have h4 := h3.keeps ((Keeps.refl [] _).drew) (by simp)
    rw [show (L ++ [((0 : Int), false, (0 : Int))]).length = L.length + 1 by simp] at h4
    exact h4
  · rcases List.mem_cons.1 hk with rfl | hk
    · exact hb
    · exact .inl hk
  · have hk := ((((Keeps.refl F w).alloc (.cells #[.int .i64 0, .int .i64 0] 30)).drewN nq).alloc (.cells #[.int .i64 0, .bool false, .int .i64 0] 136)).trans hk2 (fun k hk => .inl (g5 k (by simpa using hk)))
    exact (((((((hk.setCell (p := ⟨s, 1, none⟩) (.inl hsF) _).setCell (p := ⟨b2, _, none⟩) hb _).setCell (p := ⟨b2, _, none⟩) hb _).setCell (p := ⟨b2, _, none⟩) hb _).setCell (p := ⟨s, 2, none⟩) (.inl hsF) _).setCell (p := ⟨w.heap.size, 0, none⟩) (.inr (Nat.le_refl _)) _).setCell (p := ⟨w.heap.size, 1, none⟩) (.inr (Nat.le_refl _)) _).drew
set_option maxRecDepth 100000 in
set_option maxHeartbeats 1000000 in
theorem sput_new (s : Nat) (F : List Nat) (lim n : Int) (L : List Slot) (v : Int) (w : World) (h : SRep w s F lim L n) (hn : (n == lim) = false) (hd : freeAt L = L.length) (hL : L.length ≤ 1099511627776) (hn0 : -1099511627776 ≤ n) (hn1 : n ≤ 1099511627776) :
    Calls Try.prog 20 #[.pointer (some ⟨s, 0, none⟩), .int .i64 v] w (Put w s F lim n v L) := by
  obtain ⟨i1, hi1, hy0, hy1, hy2⟩ := info_parts slot_info
  obtain ⟨c2, c0, hfs, hsF, hsl⟩ := h.cN
  have H := hid h
  obtain ⟨A, cap, hv, h1, h2, hc⟩ := h.opened
  have HU : Hid (∀ j, j < L.length → ∃ b off, A = some ⟨b, off, none⟩ ∧ w.cell? ⟨b, off + j * 3 + 1, none⟩ = some (.bool true)) := by
    refine hid fun j hj => ?_
    obtain ⟨b, off, rfl, hcc⟩ := hc (by omega)
    have h3 := (hcc j (L[j]'(by omega)) (List.getElem?_eq_getElem (by omega))).2.1
    rw [freeAt_used (by omega) (List.getElem?_eq_getElem (by omega))] at h3
    exact ⟨b, off, rfl, h3⟩
  have HROW : Hid (Row w 136 3 (.slice A L.length cap) L.length (slotsV L)) := by
    obtain ⟨vs, g1, g2, -⟩ := h
    have := g1.cell 1
    rw [hv] at this
    simp at this
    rw [← this] at g2
    exact hid g2
  have n0 := fun o => alloc_cell c0 o
  have n1 := fun o => alloc_cell hv o
  have n2 := fun o => alloc_cell c2 o
  have HD := hid hd
  clear h hc c0 c2 hv hd
  unfold Put putL putG
  rw [HD.out, List.getElem?_eq_none (Nat.le_refl _)]
  simp only
  go_enter Try.func20, Try.ntmps20
  go_wp2_with fail
  go_quiet (fail)
  go_wp2_with fail
  go_loop [6] (fun i => ∃ j : Nat, j ≤ L.length ∧ i = .int .i64 j) (fun i => L.length - (intOf i).toNat)
  case atStart => exact ⟨0, Nat.zero_le _, rfl⟩
  case round =>
    obtain ⟨j, hj, rfl⟩ := hrel
    by_cases hlt : j < L.length
    · obtain ⟨b, off, rfl, hcj0⟩ := HU.out j hlt
      have hcj := fun o => alloc_cell hcj0 o
      have hji : (j : Int) < L.length := by omega
      clear hcj0
      go_wp2_with fail
      go_round
      case rel => exact ⟨j + 1, by omega, by go_num⟩
      case measure => simp [intOf] <;> omega
    · have hji : j = L.length := by omega
      subst hji
      obtain ⟨vs0, g1, -, g3, -, g5⟩ := H.out
      have hvs : vs0 = .slice A L.length cap := by
        have h1 := alloc_cell (g1.cell 1) (.cells #[] 3)
        simp [n1] at h1
        exact h1.symm
      subst hvs
      have G1 := hid g1
      have hsA : s ∉ (Value.slice A L.length cap).ownBlock.toList := fun hx => HROW.out.blk_ne G1.out (by decide) s (by simpa using hx) rfl
      have hrA : w.heap.size ∉ (Value.slice A L.length cap).ownBlock.toList := fun hx => by
        have := HROW.out.lt w.heap.size (by simpa using hx)
        omega
      have HSA := hid hsA
      have HRA := hid hrA
      clear g1 hsA hrA
      go_wp2_with (at_builtin; refine wpList_append_row _ rfl (.tmp 52) (.tmp 54) _ rfl 136 i1 _ 3 24 Try.underlying132 hi1 hy0 hy1 hy2 rfl (by omega) (.slice A L.length cap) L.length _ rfl (((HROW.out.alloc _).drewN _).alloc _) (some ⟨w.heap.size + 1, 0, none⟩) 1 1 [.int .i64 0, .bool false, .int .i64 0] rfl (reads_blk3 (Blk.newAt (by simp))) (by simp [Value.oneCell']) (by simp only [maxLen]; omega) (by omega) ?_; intro v2 w2 hv2 hk2 ho2; obtain ⟨b2, off2, q2, rfl, hq2, hb2, hcell, hfz, -⟩ := hv2.open_ (by omega); have bs2 := (((G1.out.alloc _).drewN _).alloc _).keeps hk2 HSA.out; have br2 := (((Blk.new w _ _).drewN _).alloc _).keeps hk2 HRA.out; have HV2 := hid hv2; have HK2 := hid hk2; have HO2 := hid ho2; have e0 := hcell (L.length * 3) (.int .i64 0) (by simp [slotsV_length]); have e1 := hcell (L.length * 3 + 1) (.bool false) (by simp [slotsV_length]); have e2 := hcell (L.length * 3 + 2) (.int .i64 0) (by simp [slotsV_length]); rw [← Nat.add_assoc] at e1 e2; clear hv2 hk2 ho2 hcell; have k1 := bs2.cell 1; have k2 := bs2.cell 2; have k3 := bs2.frozen 1; have k4 := bs2.frozen 2; have r0 := br2.cell 0; have r1 := br2.cell 1; have r2 := br2.frozen 0; have r3 := br2.frozen 1; have BS2 := hid bs2; have BR2 := hid br2; simp at k1 k2 r0 r1; have hnb : b2 ≠ s := (fun hx => HV2.out.blk_ne BS2.out (by decide) b2 rfl hx); have hnr : b2 ≠ w.heap.size := (fun hx => HV2.out.blk_ne BR2.out (by decide) b2 rfl hx); have hsr : s ≠ w.heap.size := (by omega); clear bs2 br2)
      have hlL : (L.length : Int) < (L.length : Int) + 1 := by omega
      go_region_law (fail)
      all_goals
        go_wp2_with fail
        refine bodyPost_ret (v := .tuple #[.agg #[.int .i64 L.length, .int .i64 1], .int .i64 0]) (by simp [results, Try.results20, go_sem, r0, r1]) rfl ⟨rfl, ?_⟩
        exact put_new_done H.out hsF g5 HK2.out HO2.out HV2.out BS2.out hb2 hnr k1
end Go.Proofs.Ytkeffebcmajhmaa
