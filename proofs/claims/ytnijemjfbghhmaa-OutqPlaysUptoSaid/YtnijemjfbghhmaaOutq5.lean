/- The queue: Left, Drop; a nil queue; 'ints', 'same'. -/
import Derived.Test.YtnijemjfbghhmaaOutq3
import Derived.Test.YtnijemjfbghhmaaOutq4
namespace Go.Proofs.Ytnijemjfbghhmaa
open Go.RowKit
theorem left_nil (w : World) : Calls Try.prog 14 #[.pointer none] w fun e w' => e = .returned (.slice none 0 0) ∧ w = w' := by
  go_enter Try.func14, Try.ntmps14
  go_wp2
  go_ret
  exact ⟨rfl, rfl⟩
theorem drop_nil (w : World) : Calls Try.prog 24 #[.pointer none] w fun e w' => e = .returned (.int .i64 0) ∧ w = w' := by
  go_enter Try.func24, Try.ntmps24
  go_wp2_with (go_at_call 13; refine (qlen_nil _).mono ?_; rintro e w' ⟨rfl, rfl⟩)
  go_ret
  exact ⟨rfl, rfl⟩
theorem add_nil (pv : Value) (w : World) : Calls Try.prog 9 #[.pointer none, pv] w fun e w' => e = .returned (.int .i64 0) ∧ w = w' := by
  go_enter Try.func9, Try.ntmps9
  go_wp2
  go_ret
  exact ⟨rfl, rfl⟩
theorem first_nil (n : Int) (w : World) : Calls Try.prog 28 #[.pointer none, .int .i64 n] w fun e w' => e = .returned (.slice none 0 0) ∧ w = w' := by
  go_enter Try.func28, Try.ntmps28
  go_wp2
  go_ret
  exact ⟨rfl, rfl⟩
theorem next_nil (n : Int) (w : World) : Calls Try.prog 10 #[.pointer none, .int .i64 n] w fun e w' => ∃ A c, e = .returned (.slice A 0 c) ∧ Keeps [] w w' := by
  go_enter Try.func10, Try.ntmps10
  go_wp2_with fail
  refine (first_nil n w).mono ?_
  rintro e w1 ⟨rfl, rfl⟩
  go_wp2_with fail
  refine (clone_any (.slice none 0 0) [] _ (by simpa [bytesV] using CellsIn.nil w []) (by simp)).mono ?_
  rintro e w2 ⟨v, rfl, hr, hf, hk2⟩
  obtain ⟨A, c, rfl, -⟩ := hr.form
  go_wp2
  go_ret
  exact ⟨A, c, rfl, hk2⟩
theorem drop_any (a : Nat) (F : List Nat) (bs : List Int) (ps : List (Int × Int)) (last : Int) (w : World) (h : QRep w a F bs ps last) :
    Calls Try.prog 24 #[.pointer (some ⟨a, 0, none⟩)] w fun e w' => e = .returned (.int .i64 bs.length) ∧ QRep w' a F [] [] last ∧ Keeps F w w' := by
  have HQ := hid h
  obtain ⟨vb, vp, b1, b2, b3, b4, b5, b6, b7⟩ := h
  have c0 := b1.cell 0
  have c1 := b1.cell 1
  simp at c0 c1
  have f0 := b1.frozen 0
  have f1 := b1.frozen 1
  have HB := hid (Blk.set_ (Blk.set_ b1 0 (.slice none 0 0)) 1 (.slice none 0 0))
  have HB4 := hid b4
  clear b1 b2 b3 b4 b6 b7
  go_enter Try.func24, Try.ntmps24
  go_wp2_with (go_at_call 13; refine (qlen_any a F bs ps last _ HQ.out).mono ?_; rintro e w' ⟨rfl, rfl⟩)
  go_ret
  refine ⟨rfl, ⟨.slice none 0 0, .slice none 0 0, HB.out, Row.nil _ _ _, Row.nil _ _ _, fun k hk => ?_, b5, by simp [Value.ownBlock], by simp [Value.ownBlock]⟩, ?_⟩
  · simpa [World.setCell] using HB4.out k hk
  · exact ((Keeps.refl F w).setCell (p := ⟨a, 0, none⟩) (.inl b5) _).setCell (p := ⟨a, 1, none⟩) (.inl b5) _
theorem piecesV_get (ps : List (Int × Int)) (k : Nat) (p : Int × Int) (h : ps[k]? = some p) : (piecesV ps)[k * 2]? = some (.int .i64 p.1) ∧ (piecesV ps)[k * 2 + 1]? = some (.int .i64 p.2) := by
  induction ps generalizing k with
  | nil => simp at h
  | cons q ps ih =>
    cases k with
    | zero =>
      simp at h
      subst h
      exact ⟨rfl, rfl⟩
    | succ k =>
      have := ih k (by simpa using h)
      rw [show (k + 1) * 2 = k * 2 + 2 by omega]
      exact this
set_option maxHeartbeats 1000000 in
theorem left_any (a : Nat) (F : List Nat) (bs : List Int) (ps : List (Int × Int)) (last : Int) (w : World) (h : QRep w a F bs ps last) (hps : ps.length ≤ 1099511627776) :
    Calls Try.prog 14 #[.pointer (some ⟨a, 0, none⟩)] w fun e w' => NewInts w (ps.map (·.1)) e w' ∧ Keeps [] w w' := by
  obtain ⟨i2, hi2, hx0, hx1, hx2⟩ := info_parts int_info
  obtain ⟨vb, vp, b1, b2, b3, b4, b5, b6, b7⟩ := h
  have c1 := b1.cell 1
  simp at c1
  obtain ⟨A, c, rfl, -⟩ := b3.form
  have B3 := hid b3
  clear b1 b2 b3 b4 b5 b6 b7
  go_enter Try.func14, Try.ntmps14
  go_wp2_with fail
  clear c1
  go_loopw [3, 5, 13] (fun v _ i wr => ∃ k : Nat, k ≤ ps.length ∧ i = .int .i64 k ∧ Row wr 3 1 v k (intsV ((ps.map (·.1)).take k)) ∧ (∀ j, v.ownBlock = some j → w.heap.size ≤ j) ∧ Keeps [] w wr) (fun _ _ i _ => ps.length - (intOf i).toNat)
  case atStart => exact ⟨0, Nat.zero_le _, rfl, Row.nil _ _ _, by simp [Value.ownBlock], Keeps.refl _ _⟩
  case round =>
    obtain ⟨k, hk, rfl, hrow, hob, hkp⟩ := hrel
    by_cases hlt : k < ps.length
    · obtain ⟨⟨num, l⟩, hp⟩ : ∃ p, ps[k]? = some p := ⟨ps[k], by simp [hlt]⟩
      obtain ⟨g, off, pc, hv, hpc, hg, hcell, -, -⟩ := (B3.out.keeps hkp (by simp)).open_ (by omega : 0 < ps.length)
      injection hv with hA _ hc
      subst hA hc
      have hpv := piecesV_get ps k (num, l) hp
      have d0 := hcell (k * 2) _ hpv.1
      have d1 := hcell (k * 2 + 1) _ hpv.2
      rw [← Nat.add_assoc] at d1
      have HROW := hid hrow
      have HOB := hid hob
      have HP := hid hp
      clear hrow hob hp hcell hpv
      have hB : w.heap.size ≤ wr.heap.size := hkp.size
      go_wp2_with (at_builtin; refine wpList_append_row _ rfl (.tmp 17) (.tmp 20) _ rfl 3 i2 _ 1 8 Try.underlying23 hi2 hx0 hx1 hx2 rfl (by omega) u3 k _ rfl ((HROW.out.alloc _).alloc _) (some ⟨wr.heap.size + 1, 0, none⟩) 1 1 [.int .i64 num] rfl (reads_blk1 (by simpa using Blk.new (wr.alloc (.cells #[.int .i64 num, .int .i64 l] 52)) 3 #[.int .i64 num])) (by simp [Value.oneCell']) (by simp only [maxLen]; omega) (by omega) ?_; intro v2 w2 hv2 hk2 ho2)
      go_roundw
      case rel =>
        refine ⟨k + 1, by omega, by go_num, ?_, ?_, ?_⟩
        · have e : (ps.map (·.1)).take (k + 1) = (ps.map (·.1)).take k ++ [num] := by
            rw [List.take_add_one]
            simp [HP.out]
          rw [e]
          simpa [intsV] using hv2
        · intro j hj
          rcases ho2 j hj with h | h
          · exact HOB.out j h
          · simp at h; omega
        · exact ((hkp.alloc _).alloc _).trans hk2 (fun x hx => .inr (HOB.out x (by simpa using hx)))
      case measure => simp [intOf] <;> omega
    · have hkl : k = ps.length := by omega
      subst hkl
      go_wp2
      go_ret
      refine ⟨⟨_, rfl, ?_, hob⟩, hkp⟩
      rw [List.take_of_length_le (by simp)] at hrow
      simpa using hrow
theorem take_eq_snoc {xs ys : List Int} {k : Nat} (h : xs.take k = ys.take k) {x : Int} (hx : xs[k]? = some x) (hy : ys[k]? = some x) : xs.take (k + 1) = ys.take (k + 1) := by
  rw [List.take_add_one, List.take_add_one, h, hx, hy]
/-- Two rows of bytes: are they the same? -/
def sameB (xs ys : List Int) : Bool := decide (xs = ys)
theorem sameB_self (xs : List Int) : sameB xs xs = true := by simp [sameB]
theorem same_any (a b : Value) (xs ys : List Int) (w : World) (ha : CellsIn w [] a (bytesV xs)) (hb : CellsIn w [] b (bytesV ys)) :
    Calls Try.prog 11 #[a, b] w fun e w' => e = .returned (.bool (sameB xs ys)) ∧ Keeps [] w w' := by
  have HA := hid ha
  have HB := hid hb
  obtain ⟨A, ca, rfl, ha1, ha2⟩ := ha.shape
  obtain ⟨B, cb, rfl, hb1, hb2⟩ := hb.shape
  clear ha hb
  simp only [bytesV, List.length_map] at HA HB ha1 hb1 ⊢
  have hxl : xs.length ≤ 9223372036854775807 := by omega
  have hyl : ys.length ≤ 9223372036854775807 := by omega
  clear ha1 ha2 hb1 hb2
  by_cases hl : xs.length = ys.length
  · have hlb : (((xs.length : Nat) : Int) != (ys.length : Nat)) = false := by simp [hl]
    have HL := hid hl
    clear hl
    go_enter Try.func11, Try.ntmps11
    go_wp2
    go_loopw [5] (fun i wr => ∃ k : Nat, k ≤ xs.length ∧ i = .int .i64 k ∧ xs.take k = ys.take k ∧ Keeps [] w wr) (fun i _ => xs.length - (intOf i).toNat)
    case atStart => exact ⟨0, Nat.zero_le _, rfl, by simp, Keeps.refl _ _⟩
    case round =>
      obtain ⟨k, hk, rfl, ht, hkp⟩ := hrel
      have HT := hid ht
      clear ht
      by_cases hlt : k < xs.length
      · have hlt2 : k < ys.length := by rw [← HL.out]; exact hlt
        obtain ⟨x, hx⟩ : ∃ x, xs[k]? = some x := ⟨xs[k], by simp [hlt]⟩
        obtain ⟨y, hy⟩ : ∃ y, ys[k]? = some y := ⟨ys[k], by simp [hlt2]⟩
        obtain ⟨b1, o1, rfl, -, hc1⟩ := (HA.out.keeps hkp (by simp)).at_ (by simp; omega)
        obtain ⟨b2, o2, rfl, -, hc2⟩ := (HB.out.keeps hkp (by simp)).at_ (by simp; omega)
        have e1 := hc1 k (.int .u8 x) (by simp [hx])
        have e2 := hc2 k (.int .u8 y) (by simp [hy])
        clear hc1 hc2
        have HX := hid hx
        have HY := hid hy
        clear hx hy
        have i1 : (k : Int) < xs.length := by omega
        have i2 : (k : Int) < ys.length := by omega
        by_cases hxy : x = y
        · have hne : (x != y) = false := by simp [hxy]
          have hxy := hid hxy
          go_wp2_with fail
          go_quiet (fail)
          go_wp2
          go_roundw
          case rel =>
            have h1 := HX.out
            rw [hxy.out] at h1
            exact ⟨k + 1, by omega, by go_num, take_eq_snoc HT.out h1 HY.out, hkp.drewN _⟩
          case measure => simp [intOf]; omega
        · have hne : (x != y) = true := by simp [hxy]
          have HF : Hid (sameB xs ys = false) := by
            unfold sameB
            refine decide_eq_false fun he => hxy ?_
            have h1 := HX.out
            rw [he, HY.out] at h1
            injection h1 with h1
            exact h1.symm
          clear hxy
          go_wp2_with fail
          go_quiet (fail)
          go_wp2
          go_ret
          exact ⟨by rw [HF.out]; rfl, hkp.drewN _⟩
      · have hkl : k = xs.length := by omega
        subst hkl
        have HF : Hid (sameB xs ys = true) := by
          have h1 := HT.out
          rw [List.take_length, HL.out, List.take_length] at h1
          rw [h1]
          exact sameB_self _
        go_wp2
        go_ret
        exact ⟨by rw [HF.out]; rfl, hkp⟩
  · have hlb : (((xs.length : Nat) : Int) != (ys.length : Nat)) = true := by simp; omega
    have HF : Hid (sameB xs ys = false) := by
      unfold sameB
      exact decide_eq_false fun he => hl (by rw [he])
    clear hl
    go_enter Try.func11, Try.ntmps11
    go_wp2
    go_ret
    exact ⟨by rw [HF.out]; rfl, Keeps.refl _ _⟩
theorem ints_any (a b : Value) (xs ys : List Int) (w : World) (ha : CellsIn w [] a (intsV xs)) (hb : CellsIn w [] b (intsV ys)) :
    Calls Try.prog 16 #[a, b] w fun e w' => e = .returned (.bool (sameB xs ys)) ∧ Keeps [] w w' := by
  have HA := hid ha
  have HB := hid hb
  obtain ⟨A, ca, rfl, ha1, ha2⟩ := ha.shape
  obtain ⟨B, cb, rfl, hb1, hb2⟩ := hb.shape
  clear ha hb
  simp only [intsV, List.length_map] at HA HB ha1 hb1 ⊢
  have hxl : xs.length ≤ 9223372036854775807 := by omega
  have hyl : ys.length ≤ 9223372036854775807 := by omega
  clear ha1 ha2 hb1 hb2
  by_cases hl : xs.length = ys.length
  · have hlb : (((xs.length : Nat) : Int) != (ys.length : Nat)) = false := by simp [hl]
    have HL := hid hl
    clear hl
    go_enter Try.func16, Try.ntmps16
    go_wp2
    go_loopw [5] (fun i wr => ∃ k : Nat, k ≤ xs.length ∧ i = .int .i64 k ∧ xs.take k = ys.take k ∧ Keeps [] w wr) (fun i _ => xs.length - (intOf i).toNat)
    case atStart => exact ⟨0, Nat.zero_le _, rfl, by simp, Keeps.refl _ _⟩
    case round =>
      obtain ⟨k, hk, rfl, ht, hkp⟩ := hrel
      have HT := hid ht
      clear ht
      by_cases hlt : k < xs.length
      · have hlt2 : k < ys.length := by rw [← HL.out]; exact hlt
        obtain ⟨x, hx⟩ : ∃ x, xs[k]? = some x := ⟨xs[k], by simp [hlt]⟩
        obtain ⟨y, hy⟩ : ∃ y, ys[k]? = some y := ⟨ys[k], by simp [hlt2]⟩
        obtain ⟨b1, o1, rfl, -, hc1⟩ := (HA.out.keeps hkp (by simp)).at_ (by simp; omega)
        obtain ⟨b2, o2, rfl, -, hc2⟩ := (HB.out.keeps hkp (by simp)).at_ (by simp; omega)
        have e1 := hc1 k (.int .i64 x) (by simp [hx])
        have e2 := hc2 k (.int .i64 y) (by simp [hy])
        clear hc1 hc2
        have HX := hid hx
        have HY := hid hy
        clear hx hy
        have i1 : (k : Int) < xs.length := by omega
        have i2 : (k : Int) < ys.length := by omega
        by_cases hxy : x = y
        · have hne : (x != y) = false := by simp [hxy]
          have hxy := hid hxy
          go_wp2_with fail
          go_quiet (fail)
          go_wp2
          go_roundw
          case rel =>
            have h1 := HX.out
            rw [hxy.out] at h1
            exact ⟨k + 1, by omega, by go_num, take_eq_snoc HT.out h1 HY.out, hkp.drewN _⟩
          case measure => simp [intOf]; omega
        · have hne : (x != y) = true := by simp [hxy]
          have HF : Hid (sameB xs ys = false) := by
            unfold sameB
            refine decide_eq_false fun he => hxy ?_
            have h1 := HX.out
            rw [he, HY.out] at h1
            injection h1 with h1
            exact h1.symm
          clear hxy
          go_wp2_with fail
          go_quiet (fail)
          go_wp2
          go_ret
          exact ⟨by rw [HF.out]; rfl, hkp.drewN _⟩
      · have hkl : k = xs.length := by omega
        subst hkl
        have HF : Hid (sameB xs ys = true) := by
          have h1 := HT.out
          rw [List.take_length, HL.out, List.take_length] at h1
          rw [h1]
          exact sameB_self _
        go_wp2
        go_ret
        exact ⟨by rw [HF.out]; rfl, hkp⟩
  · have hlb : (((xs.length : Nat) : Int) != (ys.length : Nat)) = true := by simp; omega
    have HF : Hid (sameB xs ys = false) := by
      unfold sameB
      exact decide_eq_false fun he => hl (by rw [he])
    clear hl
    go_enter Try.func16, Try.ntmps16
    go_wp2
    go_ret
    exact ⟨by rw [HF.out]; rfl, Keeps.refl _ _⟩
end Go.Proofs.Ytnijemjfbghhmaa
