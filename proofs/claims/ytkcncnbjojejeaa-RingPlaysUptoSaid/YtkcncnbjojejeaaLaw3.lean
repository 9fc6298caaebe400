/- The ring's laws: 'same' and 'known' by contract. -/
import Derived.Test.YtkcncnbjojejeaaRing5
import Derived.Test.YtkcncnbjojejeaaBase2
namespace Go.Proofs.Ytkcncnbjojejeaa
open Go.RowKit

theorem take_eq_snoc {xs ys : List Int} {k : Nat} (h : xs.take k = ys.take k) {x : Int} (hx : xs[k]? = some x) (hy : ys[k]? = some x) : xs.take (k + 1) = ys.take (k + 1) := by
  rw [List.take_add_one, List.take_add_one, h, hx, hy]
/-- Two rows of bytes: are they the same? -/
def sameB (xs ys : List Int) : Bool := decide (xs = ys)
theorem sameB_self (xs : List Int) : sameB xs xs = true := by simp [sameB]
theorem same_any (a b : Value) (xs ys : List Int) (w : World) (ha : CellsIn w [] a (bytesV xs)) (hb : CellsIn w [] b (bytesV ys)) :
    Calls Try.prog 24 #[a, b] w fun e w' => e = .returned (.bool (sameB xs ys)) ∧ Keeps [] w w' := by
  have HA := hid ha
  have HB := hid hb
  obtain ⟨A, ca, rfl, ha1, ha2⟩ := ha.shape
  obtain ⟨B, cb, rfl, hb1, hb2⟩ := hb.shape
  clear ha hb
  simp only [bytesV, List.length_map] at HA HB ha1 hb1 ⊢
  have hxl : xs.length ≤ 9223372036854775807 := by omega
  have hyl : ys.length ≤ 9223372036854775807 := by omega
  clear ha1 ha2 hb1 hb2
  by_cases hl : xs.length = ys.length
  · have hlb : (((xs.length : Nat) : Int) != (ys.length : Nat)) = false := by simp [hl]
    have HL := hid hl
    clear hl
    go_enter Try.func24, Try.ntmps24
    go_wp2
    go_loopw [5] (fun i wr => ∃ k : Nat, k ≤ xs.length ∧ i = .int .i64 k ∧ xs.take k = ys.take k ∧ Keeps [] w wr) (fun i _ => xs.length - (intOf i).toNat)
    case atStart => exact ⟨0, Nat.zero_le _, rfl, by simp, Keeps.refl _ _⟩
    case round =>
      obtain ⟨k, hk, rfl, ht, hkp⟩ := hrel
      have HT := hid ht
      clear ht
      by_cases hlt : k < xs.length
      · have hlt2 : k < ys.length := by rw [← HL.out]; exact hlt
        obtain ⟨x, hx⟩ : ∃ x, xs[k]? = some x := ⟨xs[k], by simp [hlt]⟩
        obtain ⟨y, hy⟩ : ∃ y, ys[k]? = some y := ⟨ys[k], by simp [hlt2]⟩
        obtain ⟨b1, o1, rfl, -, hc1⟩ := (HA.out.keeps hkp (by simp)).at_ (by simp; omega)
        obtain ⟨b2, o2, rfl, -, hc2⟩ := (HB.out.keeps hkp (by simp)).at_ (by simp; omega)
        have e1 := hc1 k (.int .u8 x) (by simp [hx])
        have e2 := hc2 k (.int .u8 y) (by simp [hy])
        clear hc1 hc2
        have HX := hid hx
        have HY := hid hy
        clear hx hy
        have i1 : (k : Int) < xs.length := by omega
        have i2 : (k : Int) < ys.length := by omega
        by_cases hxy : x = y
        · have hne : (x != y) = false := by simp [hxy]
          have hxy := hid hxy
          go_wp2_with fail
          go_quiet (fail)
          go_wp2
          go_roundw
          case rel =>
            have h1 := HX.out
            rw [hxy.out] at h1
            exact ⟨k + 1, by omega, by go_num, take_eq_snoc HT.out h1 HY.out, hkp.drewN _⟩
          case measure => simp [intOf]; omega
        · have hne : (x != y) = true := by simp [hxy]
          have HF : Hid (sameB xs ys = false) := by
            unfold sameB
            refine decide_eq_false fun he => hxy ?_
            have h1 := HX.out
            rw [he, HY.out] at h1
            injection h1 with h1
            exact h1.symm
          clear hxy
          go_wp2_with fail
          go_quiet (fail)
          go_wp2
          go_ret
          exact ⟨by rw [HF.out]; rfl, hkp.drewN _⟩
      · have hkl : k = xs.length := by omega
        subst hkl
        have HF : Hid (sameB xs ys = true) := by
          have h1 := HT.out
          rw [List.take_length, HL.out, List.take_length] at h1
          rw [h1]
          exact sameB_self _
        go_wp2
        go_ret
        exact ⟨by rw [HF.out]; rfl, hkp⟩
  · have hlb : (((xs.length : Nat) : Int) != (ys.length : Nat)) = true := by simp; omega
    have HF : Hid (sameB xs ys = false) := by
      unfold sameB
      exact decide_eq_false fun he => hl (by rw [he])
    clear hl
    go_enter Try.func24, Try.ntmps24
    go_wp2
    go_ret
    exact ⟨by rw [HF.out]; rfl, Keeps.refl _ _⟩
set_option maxHeartbeats 400000 in
theorem known_any (w : World) : Calls Try.prog 13 #[] w fun e w' => e = .returned (.bool true) ∧ Keeps [] w w' := by
  go_enter Try.func13, Try.ntmps13
  go_wp2_with fail
  refine (new_ok 4 _ (by omega) (by omega)).mono ?_
  rintro e w1 ⟨rfl, hr, hk⟩
  have hsz := hk.size
  obtain ⟨a, ha⟩ : ∃ a, w.heap.size + 1 = a := ⟨_, rfl⟩
  obtain ⟨g, hg⟩ : ∃ g, w.heap.size = g := ⟨_, rfl⟩
  rw [ha, hg] at hr
  rw [ha]
  have hla := hr.lt.1
  have hlg := hr.lt.2
  have hfa : w.heap.size ≤ a := by omega
  have hfg : w.heap.size ≤ g := by omega
  clear ha hg
  have kc := fun (w : World) (C : Array Value) (n c H : Nat) (hH : w.heap.size = H) => run_convert_const (P := Try.prog) w 32 5 C n c H Try.underlying32 Try.underlying5 hH
  go_wp2_with fail
  refine (write_any a g 4 0 [] [97, 98, 99, 100] 4 _ [(.slice (some ⟨w1.heap.size, 0, none⟩) 3 3, [97, 98, 99]), (.slice (some ⟨w1.heap.size + 1, 0, none⟩) 3 3, [100, 101, 102])] _ ?_ ?_ ?_ rfl rfl).mono ?_
  · exact hr.keeps ((((Keeps.refl [] w1).alloc _).alloc _).alloc _) (by simp) (by simp)
  · have h := CellsIn.newM ((w1.alloc (.cells #[.int .u8 97, .int .u8 98, .int .u8 99] 5 (3, 4))).alloc (.cells #[.int .u8 100, .int .u8 101, .int .u8 102] 5 (3, 4))) [a, g] [.slice (some ⟨w1.heap.size, 0, none⟩) 3 3, .slice (some ⟨w1.heap.size + 1, 0, none⟩) 3 3] 32 (0, 0) (by simp; omega) (by simp)
    simpa using h
  · intro r hr0
    have h1 := (CellsIn.newM w1 [a, g] (bytesV [97, 98, 99]) 5 (3, 4) (by simp; omega) (by simp [bytesV])).keeps (((Keeps.refl [] _).alloc (.cells #[.int .u8 100, .int .u8 101, .int .u8 102] 5 (3, 4))).alloc (.cells #[.slice (some ⟨w1.heap.size, 0, none⟩) 3 3, .slice (some ⟨w1.heap.size + 1, 0, none⟩) 3 3] 32)) (by simp)
    have h2 := (CellsIn.newM (w1.alloc (.cells #[.int .u8 97, .int .u8 98, .int .u8 99] 5 (3, 4))) [a, g] (bytesV [100, 101, 102]) 5 (3, 4) (by simp; omega) (by simp [bytesV])).keeps ((Keeps.refl [] _).alloc (.cells #[.slice (some ⟨w1.heap.size, 0, none⟩) 3 3, .slice (some ⟨w1.heap.size + 1, 0, none⟩) 3 3] 32)) (by simp)
    simp only [List.mem_cons, List.not_mem_nil, or_false] at hr0
    rcases hr0 with rfl | rfl
    · simpa [bytesV] using h1
    · simpa [bytesV] using h2
  rintro e w2 ⟨rfl, hr2, hk2⟩
  have hk2' : Keeps [] w w2 := (((hk.alloc _).alloc _).alloc _).trans hk2 (by simp; omega)
  have hsz2 := hk2.size
  clear hr hk hk2
  go_wp2_with fail
  refine (skip_t a g 4 0 [97, 98, 99, 100] 2 2 _ hr2 (by omega) (by simp) (.inl rfl)).mono ?_
  rintro e w3 ⟨rfl, hr3, hk3⟩
  have hk3' : Keeps [] w w3 := hk2'.trans hk3 (by simp; omega)
  go_wp2_with fail
  refine (peek_t a g 4 2 [99, 100] 2 9 _ hr3 (by simp) (.inr (.inl (by simp)))).mono ?_
  rintro e w4 ⟨v, rfl, hv, hvf, hk4⟩
  have hk4' : Keeps [] w w4 := hk3'.trans hk4 (by simp)
  have hr4 := hr3.keeps hk4 (by simp) (by simp)
  go_wp2_with fail
  refine (same_any _ _ [99, 100] [99, 100] _ ?_ ?_).mono ?_
  · exact (hv.cellsIn (by simp)).keeps ((Keeps.refl [] _).alloc _) (by simp)
  · have h := CellsIn.newM w4 [] (bytesV [99, 100]) 5 (2, 3) (by simp) (by simp [bytesV])
    simpa [bytesV] using h
  rintro e w5 ⟨rfl, hk5⟩
  have hk5' : Keeps [] w w5 := (hk4'.alloc _).trans hk5 (by simp)
  have hr5 := (hr4.keeps ((Keeps.refl [] _).alloc _) (by simp) (by simp)).keeps hk5 (by simp) (by simp)
  have hs : sameB [99, 100] [99, 100] = true := rfl
  go_wp2_with fail
  refine (find_any a g 4 2 [99, 100] 100 _ hr5).mono ?_
  rintro e w6 ⟨rfl, hk6⟩
  have hk6' : Keeps [] w w6 := hk5'.trans hk6 (by simp)
  have hr6 := hr5.keeps hk6 (by simp) (by simp)
  have hf6 : findI 100 [99, 100] = 1 := rfl
  go_wp2_with fail
  refine (room_any a 2 4 4 _ _ hr6.c0 hr6.c2 (by omega) (by omega) (by omega)).mono ?_
  rintro e w7 ⟨rfl, k7, rfl⟩
  go_wp2
  go_ret
  exact ⟨rfl, hk6'.drewN _⟩
end Go.Proofs.Ytkcncnbjojejeaa
