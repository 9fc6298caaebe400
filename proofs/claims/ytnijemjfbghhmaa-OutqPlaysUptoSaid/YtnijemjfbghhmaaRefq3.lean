/- The reference's queue: Done by contract. -/
import Derived.Test.YtnijemjfbghhmaaRefq2
namespace Go.Proofs.Ytnijemjfbghhmaa
open Go.RowKit
def toldV (t T : Nat) : List Int := (List.range T).map (fun i : Nat => (t : Int) + 1 + i)
theorem toldV_length (t T : Nat) : (toldV t T).length = T := by simp [toldV]
theorem toldV_succ (t T : Nat) : toldV t (T + 1) = toldV t T ++ [((t + T + 1 : Nat) : Int)] := by
  unfold toldV
  rw [List.range_succ, List.map_append]
  simp
  omega
def RDone (x : Nat) (F : List Nat) (bs es : List Int) (g : Int) (t k : Nat) (w : World) (e : Ending) (w' : World) : Prop :=
  ∃ T, t + T ≤ es.length ∧ NewInts w (toldV t T) e w' ∧ (∃ F', RQ w' x F' (bs.drop k) es (g + k) ((t + T : Nat) : Int) ∧ Later F w F') ∧
    (∀ i e, i < T → es[t + i]? = some e → e ≤ g + k) ∧ (∀ e, es[t + T]? = some e → g + k < e) ∧ Keeps F w w'
set_option maxRecDepth 100000 in
set_option maxHeartbeats 2000000 in
theorem rdone_any (x : Nat) (F : List Nat) (bs es : List Int) (g : Int) (t : Nat) (n : Int) (w : World) (h : RQ w x F bs es g t) (hg0 : 0 ≤ g) (hg1 : g ≤ 1099511627776) (ht : t ≤ es.length) (hbs : bs.length ≤ 1099511627776) (hes : es.length ≤ 1099511627776) :
    Calls Try.prog 22 #[.pointer (some ⟨x, 0, none⟩), .int .i64 n] w (RDone x F bs es g t (clip n bs.length) w) := by
  obtain ⟨i0, hi0, hz0, hz1, hz2⟩ := info_parts byte_info
  obtain ⟨i1, hi1, hy0, hy1, hy2⟩ := info_parts int_info
  obtain ⟨vb, ve, b1, b2, b3, b4, b5, b6, b7⟩ := h
  have HC := hid (b2.cellsIn (F := []) (by simp))
  obtain ⟨A, c, rfl, hc1, hc2, -, -⟩ := b2.form
  have c0 := b1.cell 0
  have c2 := b1.cell 2
  simp at c0 c2
  have B1 := hid b1
  have n1 : ∀ o : Obj, (w.alloc o).cell? ⟨x, 0, none⟩ = some (.slice A bs.length c) := fun o => by simpa using (B1.out.alloc o).cell 0
  have hcl := clip_le n bs.length
  obtain ⟨N, hN⟩ : ∃ N, (if (bs.length : Int) < n then (bs.length : Int) else n) = N := ⟨_, rfl⟩
  have hM : (if (0 : Int) < N then N else 0) = clip n bs.length := by
    subst hN
    unfold clip
    split <;> split <;> split <;> omega
  obtain ⟨k, hk⟩ : ∃ k, clip n bs.length = k := ⟨_, rfl⟩
  rw [hk] at hM hcl
  rw [hk]
  have HR : Hid (Reads w 1 (cutA A k c 1) (bs.length - k) (bytesV (bs.drop k))) := by
    have h := (HC.out.cut (lo := k) (hi := bs.length) hcl (Nat.le_refl _)).reads.2
    have e1 : ((bytesV bs).drop k).take (bs.length - k) = bytesV (bs.drop k) := by
      rw [List.take_of_length_le (by simp [bytesV])]
      simp [bytesV]
    rw [e1] at h
    exact hid h
  have HN := hid hN
  have hsl := fun wx => run_cut_lo (P := Try.prog) wx 24 5 i0 1 Try.underlying24 hi0 hz1 A bs.length c k (k : Int) rfl .i64 hcl
  have hkb : (k : Int) ≤ bs.length := by omega
  have hw1 : IntKind.i64.wrap (g + k) = g + k := IntWalk.i64_in _ (by omega)
  have B2 := hid b2
  have B3 := hid b3
  have B4 := hid b4
  have B6 := hid b6
  have B7 := hid b7
  have hxlt : x < w.heap.size := b4 x b5
  clear b1 b2 b3 b4 b6 b7 hk
  go_enter Try.func22, Try.ntmps22
  go_wp2_with (at_builtin; refine wpList_append_row _ rfl (.tmp 15) (.tmp 21) _ rfl 5 i0 _ 1 1 Try.underlying24 hi0 hz0 hz1 hz2 rfl (by omega) (.slice (some ⟨w.heap.size, 0, none⟩) 0 0) 0 [] rfl (Row.empty w _) _ (bs.length - k) (c - k) _ rfl (HR.out.alloc _) (bytesV_one _) (by simp only [maxLen]; omega) (by omega) ?_; intro v1 w1 hv1 hk1 ho1; rw [Nat.zero_add, List.nil_append] at hv1; obtain ⟨A1, q1, rfl, -⟩ := hv1.form; have hk3 := before_new (w := w) ((Keeps.refl [] w).alloc _) hk1 ho1; have hb1 := B1.out.keeps hk3.1 (by simp); have d0 := hb1.cell 0; have f0 := hb1.frozen 0; have d2 := hb1.cell 2; have f2 := hb1.frozen 2; simp at d0 d2; have HB1 := hid hb1; have HV1 := hid hv1; have HK3 := hid hk3; clear hv1 hk1 ho1 hk3 hb1)
  have hstart : Hid (∃ G, RQ ((w1.setCell ⟨x, 0, none⟩ (.slice A1 (bs.length - k) q1)).setCell ⟨x, 2, none⟩ (.int .i64 (g + k))) x G (bs.drop k) es (g + k) t ∧ Later F w G ∧ Keeps F w ((w1.setCell ⟨x, 0, none⟩ (.slice A1 (bs.length - k) q1)).setCell ⟨x, 2, none⟩ (.int .i64 (g + k)))) := by
    have hv := HV1.out
    rw [← List.length_drop] at hv
    have hs := RQ.setB B1.out B2.out B3.out B4.out b5 B6.out B7.out hv (HK3.out.1.mono (by simp)) (fun j hj => .inr (HK3.out.2 j (by rw [← List.length_drop]; exact hj)))
    rw [List.length_drop] at hs
    exact hid ⟨_, hs.1.setG _, hs.2.2, hs.2.1.setCell (.inl b5) _⟩
  clear c0 c2 B1 n1 hM HC HR hsl B2 B3 B4 B6 B7 f0 f2 d0 d2 HB1 HV1 HK3 hw1 hN HN
  obtain ⟨G0, hq0, hl0, hk0⟩ := hstart.out
  go_loopw [5] (fun l wr => ∃ (T m : Nat) (G : List Nat), m = t + T ∧ m ≤ es.length ∧ Row wr 3 1 l T (intsV (toldV t T)) ∧ (∀ j, l.ownBlock = some j → w.heap.size ≤ j ∧ j ∉ G) ∧ RQ wr x G (bs.drop k) es (g + k) (m : Int) ∧ Later F w G ∧ Keeps F w wr ∧
      (∀ i e, i < T → es[t + i]? = some e → e ≤ g + k)) (fun l _ => es.length - lenOf l)
  case atStart => exact ⟨0, t, G0, rfl, by omega, Row.nil _ _ _, by simp [Value.ownBlock], hq0, hl0, hk0, by omega⟩
  case round =>
    clear hq0 hl0 hk0 hstart
    obtain ⟨T, m, G, hm, hT, hrow, hob, hq, hlat, hkp, hall⟩ := hrel
    obtain ⟨LA, lc, rfl, -⟩ := hrow.form
    have HROW := hid hrow
    have HOB := hid hob
    have HALL := hid hall
    have HQ := hid hq
    obtain ⟨vb, ve', b1, b2, b3, b4, b5', b6, b7⟩ := hq
    clear hrow hob hall
    obtain ⟨EA, ec, rfl, -, -, -, -⟩ := b3.form
    have c1 := b1.cell 1
    have c2 := b1.cell 2
    have c3 := b1.cell 3
    have f3 := b1.frozen 3
    simp at c1 c2 c3
    have B4 := hid b4
    have B6 := hid b6
    have B7 := hid b7
    have HM := hid hm
    clear hm
    by_cases hlt : m < es.length
    · obtain ⟨e0, he0⟩ : ∃ e, es[m]? = some e := ⟨es[m], List.getElem?_eq_getElem hlt⟩
      obtain ⟨eb, eo, hee, -, hec⟩ := (b3.cellsIn (F := []) (by simp)).at_ (by simp [intsV]; omega)
      subst hee
      have d1 := hec m (.int .i64 e0) (by simp [intsV, he0])
      have HE0 := hid he0
      have hlti : (m : Int) < es.length := by omega
      have hT1 : T ≤ 1099511627776 := by have := HM.out; omega
      have B1 := hid b1
      have B3 := hid b3
      clear hec he0 b1 b2 b3 b4 b6 b7
      by_cases hle : e0 ≤ g + k
      · have ha : x ∉ (Value.slice LA T lc).ownBlock.toList := fun hx => (HOB.out x (by simpa using hx)).2 b5'
        have HA := hid ha
        have HROW2 : Hid (∀ q, Row ((wr.drewN q).setCell ⟨x, 3, none⟩ (.int .i64 (m + 1))) 3 1 (.slice LA T lc) T (intsV (toldV t T))) :=
          hid fun q => (HROW.out.drewN q).far (p := ⟨x, 3, none⟩) (fun j hj hx => ha (by subst hx; simpa using hj)) _
        have HBLK : Hid (∀ q, Blk (((wr.drewN q).setCell ⟨x, 3, none⟩ (.int .i64 (m + 1))).alloc (.cells #[.int .i64 (m + 1)] 3)) wr.heap.size 3 #[.int .i64 (m + 1)]) :=
          hid fun q => by
            have h := Blk.new ((wr.drewN q).setCell ⟨x, 3, none⟩ (.int .i64 (m + 1))) 3 #[.int .i64 (m + 1)]
            have e : ((wr.drewN q).setCell ⟨x, 3, none⟩ (.int .i64 (m + 1))).heap.size = wr.heap.size := by simp [World.setCell, World.drewN]
            rw [e] at h
            exact h
        clear ha
        go_wp2_with fail
        go_quiet (fail)
        go_wp2_with (at_builtin; refine wpList_append_row _ rfl (.tmp 68) (.tmp 73) _ rfl 3 i1 _ 1 8 Try.underlying23 hi1 hy0 hy1 hy2 rfl (by omega) (.slice LA T lc) T _ rfl ((HROW2.out _).alloc _) (some ⟨wr.heap.size, 0, none⟩) 1 1 [.int .i64 (m + 1)] rfl (reads_blk1 (HBLK.out _)) (by simp [Value.oneCell']) (by simp only [maxLen]; omega) (by omega) ?_; intro v2 w2 hv2 hk2 ho2; obtain ⟨A2, q2, rfl, -⟩ := hv2.form)
        go_roundw
        case rel =>
          have hq3 := ((HQ.out.keeps ((Keeps.refl [] wr).drewN nq) (by simp)).setT (m + 1)).keeps ((Keeps.refl [] _).alloc (.cells #[.int .i64 (m + 1)] 3)) (by simp)
          have hq4 := hq3.keeps hk2 (fun j hj hx => (HOB.out j (by simpa using hx)).2 hj)
          have hkk : Keeps F w w2 := (((hkp.drewN nq).setCell (p := ⟨x, 3, none⟩) (.inl b5) (.int .i64 (m + 1))).alloc _).trans hk2 (fun j hj => .inr (HOB.out j (by simpa using hj)).1)
          refine ⟨T + 1, m + 1, G, by have := HM.out; omega, by omega, ?_, ?_, ?_, hlat, hkk, ?_⟩
          · rw [toldV_succ, ← HM.out]
            simpa [intsV] using hv2
          · intro j hj
            rcases ho2 j hj with h | h
            · exact HOB.out j h
            · have h5 := hkp.size
              have h6 : wr.heap.size ≤ j := by
                simp [World.setCell, World.drewN] at h
                omega
              exact ⟨by omega, fun hx => by have := B4.out j hx; omega⟩
          · simpa using hq4
          · intro i e hi he
            by_cases hiT : i < T
            · exact HALL.out i e hiT he
            · have hiT2 : i = T := by omega
              subst hiT2
              rw [← HM.out, HE0.out] at he
              injection he with he
              omega
        case measure =>
          have := HM.out
          simp [lenOf] <;> omega
      · have hfin : Hid (RDone x F bs es g t k w (.returned (.slice LA T lc)) wr) := by
          have hm := HM.out
          subst hm
          refine hid ⟨T, hT, ⟨_, rfl, by rw [toldV_length]; exact HROW.out, fun j hj => (HOB.out j hj).1⟩, ⟨G, HQ.out, hlat⟩, HALL.out, fun e he => ?_, hkp⟩
          rw [HE0.out] at he
          injection he with he
          omega
        have hfin2 : Hid (∀ q, RDone x F bs es g t k w (.returned (.slice LA T lc)) (wr.drewN q)) := hid fun q => by
          obtain ⟨T, h1, ⟨v, hv, hv2, hv3⟩, ⟨F', h3, h4⟩, h5, h6, h7⟩ := hfin.out
          exact ⟨T, h1, ⟨v, hv, hv2.drewN q, hv3⟩, ⟨F', h3.keeps ((Keeps.refl [] wr).drewN q) (by simp), h4⟩, h5, h6, h7.drewN q⟩
        go_wp2_with fail
        go_quiet (fail)
        go_wp2
        go_ret
        exact hfin2.out _
    · have hfin2 : Hid (∀ q, RDone x F bs es g t k w (.returned (.slice LA T lc)) (wr.drewN q)) := hid fun q => by
        have hm := HM.out
        subst hm
        refine ⟨T, hT, ⟨_, rfl, by rw [toldV_length]; exact HROW.out.drewN q, fun j hj => (HOB.out j hj).1⟩, ⟨G, HQ.out.keeps ((Keeps.refl [] wr).drewN q) (by simp), hlat⟩, HALL.out, fun e he => ?_, hkp.drewN q⟩
        have := (List.getElem?_eq_some_iff.1 he).1
        omega
      have hlti : ¬ (m : Int) < es.length := by omega
      clear b1 b2 b3 b4 b6 b7
      go_wp2_with fail
      go_quiet (fail)
      go_wp2
      go_ret
      exact hfin2.out _
end Go.Proofs.Ytnijemjfbghhmaa
