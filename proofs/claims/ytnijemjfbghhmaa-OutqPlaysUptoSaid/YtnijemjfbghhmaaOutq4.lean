/- The queue: Done by contract. -/
import Derived.Test.YtnijemjfbghhmaaOutq2
import Derived.Test.YtnijemjfbghhmaaBase5
namespace Go.Proofs.Ytnijemjfbghhmaa
open Go.RowKit
/-- What n bytes more make of the pieces: those that are whole, and what is left. -/
def settle : List (Int × Int) → Int → List Int × List (Int × Int)
  | [], _ => ([], [])
  | (num, l) :: ps, n => if l ≤ n then (num :: (settle ps (n - l)).1, (settle ps (n - l)).2) else ([], (num, l - n) :: ps)
def intsV (q : List Int) : List Value := q.map (Value.int .i64)
theorem intsV_one (q : List Int) : ∀ u ∈ intsV q, u.oneCell' = true := by
  intro u hu
  unfold intsV at hu
  obtain ⟨x, -, rfl⟩ := List.mem_map.1 hu
  rfl
def NewInts (w : World) (q : List Int) (e : Ending) (w' : World) : Prop := ∃ v, e = .returned v ∧ Row w' 3 1 v q.length (intsV q) ∧ (∀ k, v.ownBlock = some k → w.heap.size ≤ k) 
def lenOf : Value → Nat | .slice _ n _ => n | _ => 0
def Sized (ps : List (Int × Int)) : Prop := ∀ p ∈ ps, 0 ≤ p.2 ∧ p.2 ≤ 1099511627776
/-- Bytes have gone: the row is cut. -/
theorem done_nil (n : Int) (w : World) : Calls Try.prog 12 #[.pointer none, .int .i64 n] w fun e w' => e = .returned (.slice none 0 0) ∧ w = w' := by
  go_enter Try.func12, Try.ntmps12
  go_wp2
  go_ret
  exact ⟨rfl, rfl⟩
set_option maxRecDepth 100000 in
set_option maxHeartbeats 1000000 in
theorem done_any (a : Nat) (F : List Nat) (bs : List Int) (ps : List (Int × Int)) (last : Int) (n : Int) (w : World) (h : QRep w a F bs ps last) (hbs : bs.length ≤ 1099511627776) (hps : ps.length ≤ 1099511627776) (hsz : Sized ps) :
    Calls Try.prog 12 #[.pointer (some ⟨a, 0, none⟩), .int .i64 n] w fun e w' => NewInts w (settle ps (clip n bs.length)).1 e w' ∧
      (∃ F', QRep w' a F' (bs.drop (clip n bs.length)) (settle ps (clip n bs.length)).2 last ∧ Later F w F' ∧ ∀ v, e = .returned v → ∀ k, v.ownBlock = some k → k ∉ F') ∧ Keeps F w w' := by
  obtain ⟨i0, hi0, hz0, hz1, hz2⟩ := info_parts byte_info
  obtain ⟨i1, hi1, hy0, hy1, hy2⟩ := info_parts piece_info
  obtain ⟨i2, hi2, hx0, hx1, hx2⟩ := info_parts int_info
  have HQ := hid h
  clear h
  go_enter Try.func12, Try.ntmps12
  go_wp2_with fail
  refine (first_any a F bs ps last n w HQ.out).mono ?_
  rintro e w1 ⟨A, c, rfl, -, hk⟩
  have hq := HQ.out.keeps hk (by simp)
  have hkl := clip_le n bs.length
  obtain ⟨k, hkk⟩ : ∃ k, clip n bs.length = k := ⟨_, rfl⟩
  rw [hkk] at hkl ⊢
  have HKK := hid hkk
  clear hkk
  obtain ⟨vb, vp, b1, b2, b3, b4, b5, b6, b7⟩ := hq
  obtain ⟨A0, c0', rfl, hc0, -, -, -⟩ := b2.form
  have c0 := b1.cell 0
  simp at c0
  have f0 := b1.frozen 0
  have hsl := fun wx => run_cut_lo (P := Try.prog) wx 24 5 i0 1 Try.underlying24 hi0 hz1 A0 bs.length c0' k (k : Int) rfl .i64 hkl
  have hcut := b2.cut hkl
  rw [Nat.mul_one, show (bytesV bs).drop k = bytesV (bs.drop k) by simp [bytesV], show bs.length - k = (bs.drop k).length by simp] at hcut
  have hs := QRep.setB b1 b2 b3 b4 b5 b6 b7 hcut (Keeps.refl _ w1) (fun j hj => .inl (by rw [ownBlock_cut] at hj; cases A0 with | none => cases hj | some x => exact hj))
  rw [List.length_drop] at hs
  have HS := hid hs
  clear hs hcut b1 b2 b3 b4 b5 b6 b7
  have hkb : (k : Int) ≤ bs.length := by omega
  have hk1 : Keeps F w w1 := hk.mono (by simp)
  go_wp2_with fail
  obtain ⟨G0, hq0, hlat0, hkp0⟩ : ∃ G0, QRep (w1.setCell ⟨a, 0, none⟩ (.slice (cutA A0 k c0' 1) (bs.length - k) (c0' - k))) a G0 (bs.drop k) ps last ∧ Later F w G0 ∧ Keeps F w (w1.setCell ⟨a, 0, none⟩ (.slice (cutA A0 k c0' 1) (bs.length - k) (c0' - k))) :=
    ⟨_, HS.out.1, (Later.refl F w).trans HS.out.2.2 hk.size, hk1.trans HS.out.2.1 (by intro x hx; exact .inl hx)⟩
  clear c0 f0 hsl HS hk hk1
  generalize w1.setCell ⟨a, 0, none⟩ (.slice (cutA A0 k c0' 1) (bs.length - k) (c0' - k)) = W0 at hq0 hkp0 ⊢
  go_loopw [1, 5] (fun m v wr => ∃ (r : Int) (told : List Int) (rest : List (Int × Int)) (G : List Nat), m = .int .i64 r ∧ 0 ≤ r ∧ r ≤ 1099511627776 ∧ Row wr 3 1 v told.length (intsV told) ∧ (∀ j, v.ownBlock = some j → w.heap.size ≤ j ∧ j ∉ G) ∧
      QRep wr a G (bs.drop k) rest last ∧ Later F w G ∧ Keeps F w wr ∧ Sized rest ∧ rest.length + told.length = ps.length ∧ settle ps k = (told ++ (settle rest r).1, (settle rest r).2)) (fun _ v _ => ps.length - lenOf v)
  case atStart => exact ⟨k, [], ps, G0, rfl, by omega, by omega, Row.nil _ _ _, by simp [Value.ownBlock], hq0, hlat0, hkp0, hsz, by simp, by simp⟩
  case round =>
    obtain ⟨r, told, rest, G, rfl, hr0, hr1, hrow, hob, hq, hlat, hkp, hszr, hlen, hset⟩ := hrel
    obtain ⟨AV, vc, rfl, -⟩ := hrow.form
    obtain ⟨vb, vp, b1, b2, b3, b4, b5, b6, b7⟩ := hq
    have c1 := b1.cell 1
    simp at c1
    have f1 := b1.frozen 1
    have HROW := hid hrow
    have HOB := hid hob
    have HSET := hid hset
    have HLEN := hid hlen
    have hLT : told.length ≤ 1099511627776 := by omega
    clear hrow hob hset
    cases rest with
    | nil =>
      obtain ⟨PA, pc, rfl, -, -, -, -⟩ := b3.form
      have B : QRep wr a G (bs.drop k) [] last := ⟨_, _, b1, b2, b3, b4, b5, b6, b7⟩
      clear b1 b2 b3 b4 b6 b7 hlen
      simp only [List.length_nil] at c1
      go_wp2
      go_ret
      have hs := HSET.out
      simp only [settle, List.append_nil] at hs
      rw [HKK.out, hs]
      refine ⟨⟨_, rfl, HROW.out, fun j hj => (HOB.out j hj).1⟩, ⟨G, B, hlat, fun v hv j hj => ?_⟩, hkp⟩
      injection hv with hv
      subst hv
      exact (HOB.out j hj).2
    | cons p rest =>
      obtain ⟨num, l⟩ := p
      obtain ⟨g, off, pc, rfl, hpc, hg, hcell, hfr, hset⟩ := b3.open_ (by simp)
      have d0 := hcell 0 (.int .i64 num) rfl
      have d1 := hcell 1 (.int .i64 l) rfl
      rw [Nat.add_zero] at d0
      have hl := hszr (num, l) (by simp)
      obtain ⟨hl0, hl1⟩ := hl
      simp only [List.length_cons] at c1 hlen hpc
      have g1 := hfr (off + 1)
      by_cases hlr : l ≤ r
      · have hst : settle ps k = ((told ++ [num]) ++ (settle rest (r - l)).1, (settle rest (r - l)).2) := by
          have h := HSET.out
          simp only [settle, if_pos hlr] at h
          rw [h]
          simp
        have HST := hid hst
        have hw1 : IntKind.i64.wrap (r - l) = r - l := IntWalk.i64_in _ (by omega)
        have hsl := fun wx => run_cut_lo (P := Try.prog) wx 48 52 i1 2 Try.underlying48 hi1 hy1 (some ⟨g, off, none⟩) (rest.length + 1) pc 1 (1 : Int) rfl .i64 (by omega)
        have ha : a ∉ (Value.slice AV told.length vc).ownBlock.toList := fun hx => (HOB.out a (by simpa using hx)).2 b5
        have HA := hid ha
        have B1 := hid b1
        have B2 := hid b2
        have B3 := hid b3
        have B4 := hid b4
        have B6 := hid b6
        have B7 := hid b7
        have n1 : ∀ o : Obj, (wr.alloc o).cell? ⟨a, 1, none⟩ = some (.slice (some ⟨g, off, none⟩) (rest.length + 1) pc) := fun o => by simpa using (B1.out.alloc o).cell 1
        clear hst ha b1 b2 b3 b4 b6 b7 hcell hset hfr
        go_wp2_with (at_builtin; refine wpList_append_row _ rfl (.tmp 47) (.tmp 55) _ rfl 3 i2 _ 1 8 Try.underlying23 hi2 hx0 hx1 hx2 rfl (by omega) (.slice AV told.length vc) told.length _ rfl (HROW.out.alloc _) (some ⟨wr.heap.size, 0, none⟩) 1 1 [.int .i64 num] rfl (reads_blk1 (Blk.new wr _ _)) (by simp [Value.oneCell']) (by simp only [maxLen]; omega) (by omega) ?_; intro v2 w2 hv2 hk2 ho2; have hb2 := (B1.out.alloc (.cells #[.int .i64 num] 3)).keeps hk2 HA.out; have c2 := hb2.cell 1; have f2 := hb2.frozen 1; simp at c2; have HV2 := hid hv2; have HK2 := hid hk2; have HO2 := hid ho2; have HB2 := hid hb2; clear hv2 hk2 ho2 hb2)
        go_roundw
        case rel =>
          have hAV : ∀ x ∈ (Value.slice AV told.length vc).ownBlock.toList, w.heap.size ≤ x ∧ x ∉ G := fun x hx => HOB.out x (by simpa using hx)
          have hkw2 : Keeps (Value.slice AV told.length vc).ownBlock.toList wr w2 := ((Keeps.refl _ wr).alloc _).trans HK2.out (fun x hx => .inl hx)
          have r2 := B2.out.keeps hkw2 (fun j hj hx => (hAV j hx).2 (B6.out j hj))
          have r3 := B3.out.keeps hkw2 (fun j hj hx => (hAV j hx).2 (B7.out j hj))
          have hcut := Row.cut (n := rest.length + 1) r3 (lo := 1) (by omega)
          have hcut2 : Row w2 52 2 (.slice (cutA (some ⟨g, off, none⟩) 1 pc 2) rest.length (pc - 1)) rest.length (piecesV rest) := hcut
          have hs := QRep.setP HB2.out r2 r3 (fun x hx => Nat.lt_of_lt_of_le (B4.out x hx) hkw2.size) b5 B6.out B7.out hcut2 (Keeps.refl _ w2) (fun j hj => .inl (by rw [ownBlock_cut] at hj; exact hj))
          have hv2b : ∀ j, v2.ownBlock = some j → w.heap.size ≤ j ∧ j ∉ G := by
            intro j hj
            rcases HO2.out j hj with h | h
            · exact HOB.out j h
            · simp at h
              have := hkp.size
              exact ⟨by omega, fun hx => by have := B4.out j hx; omega⟩
          refine ⟨r - l, told ++ [num], rest, _, rfl, by omega, by omega, ?_, ?_, hs.1, ?_, ?_, fun p hp => hszr p (by simp [hp]), ?_, ?_⟩
          · have hv := HV2.out
            rw [show intsV told ++ [.int .i64 num] = intsV (told ++ [num]) by simp [intsV], show told.length + 1 = (told ++ [num]).length by simp] at hv
            exact hv.far (fun j hj e => (hv2b j hj).2 (by rw [e]; exact b5)) _
          · intro j hj
            refine ⟨(hv2b j hj).1, fun hx => ?_⟩
            rw [List.mem_append] at hx
            rcases hx with hx | hx
            · exact (hv2b j hj).2 hx
            · rw [ownBlock_cut] at hx
              exact (hv2b j hj).2 (B7.out j (by simp [Value.ownBlock] at hx ⊢; exact hx.symm))
          · exact (hlat.trans (Later.refl G wr) hkp.size).trans (fun x hx => (hs.2.2 x hx).elim .inl (fun h => .inr (Nat.le_trans hkw2.size h))) hkp.size
          · exact (hkp.trans hkw2 (fun x hx => .inr (hAV x hx).1)).trans hs.2.1 (fun x hx => hlat x hx)
          · have := HLEN.out
            simp at this ⊢
            omega
          · exact HST.out
        case measure =>
          obtain ⟨A5, c5, e5, -⟩ := HV2.out.form
          subst e5
          have := HLEN.out
          simp [lenOf] at this ⊢
          omega
      · have hst : settle ps k = (told, (num, l - r) :: rest) := by
          have h := HSET.out
          simp only [settle, if_neg hlr, List.append_nil] at h
          exact h
        have HST := hid hst
        have hw1 : IntKind.i64.wrap (l - r) = l - r := IntWalk.i64_in _ (by omega)
        have HS := hid (hset 1 (.int .i64 (l - r)) (by simp [piecesV]))
        have hga : g ≠ a := by
          intro e
          exact b3.blk_ne b1 (by decide) g rfl e
        have hgG := b7 g rfl
        have B1 := hid b1
        have B2 := hid b2
        have B3 := hid b3
        have B4 := hid b4
        have B6 := hid b6
        have B7 := hid b7
        clear hst b1 b2 b3 b4 b6 b7 hcell hset hfr
        go_wp2
        go_ret
        rw [HKK.out, HST.out]
        have hAV : ∀ x, (Value.slice AV told.length vc).ownBlock = some x → x ≠ g := fun x hx e => (HOB.out x hx).2 (by rw [e]; exact hgG)
        refine ⟨⟨_, rfl, HROW.out.far (fun x hx => hAV x hx) _, fun j hj => (HOB.out j hj).1⟩, ⟨G, ⟨vb, .slice (some ⟨g, off, none⟩) (rest.length + 1) pc, ?_, ?_, ?_, ?_, b5, B6.out, B7.out⟩, hlat, ?_⟩, ?_⟩
        · exact B1.out.far (fun e => hga e.symm) _
        · exact B2.out.far (fun x hx e => B2.out.disj B3.out (by decide) x hx (by simp [Value.ownBlock]; exact e.symm)) _
        · exact HS.out
        · intro x hx
          simpa [World.setCell] using B4.out x hx
        · intro v hv j hj
          injection hv with hv
          subst hv
          exact (HOB.out j hj).2
        · exact hkp.setCell (by have := hlat g hgG; exact this) _
end Go.Proofs.Ytnijemjfbghhmaa
