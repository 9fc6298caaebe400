/- The laws' events by contract: two rows of Events. -/
import Derived.Test.YtkeffebcmajhmaaPoll8
namespace Go.Proofs.Ytkeffebcmajhmaa
open Go.RowKit
set_option linter.unusedVariables false
set_option linter.unusedSimpArgs false
set_option maxRecDepth 100000 in
set_option maxHeartbeats 4000000 in
theorem events_any (a b : Value) (xs ys : List Ev) (w : World) (ha : EvIn w [] a xs) (hb : EvIn w [] b ys) :
    Calls Try.prog 69 #[a, b] w fun e w' => e = .returned (.bool (decide (xs = ys))) ∧ Keeps [] w w' := by
  have HA := hid ha
  have HB := hid hb
  obtain ⟨A, ca, rfl, ha1, ha2⟩ := ha.shape
  obtain ⟨B, cb, rfl, hb1, hb2⟩ := hb.shape
  clear ha hb
  have hxl : xs.length ≤ 9223372036854775807 := by omega
  have hyl : ys.length ≤ 9223372036854775807 := by omega
  clear ha1 ha2 hb1 hb2
  have heq : ∀ (a b : Ev) (w : World), (Op.equalIn 10000 95 (evA a) (evA b)).run Try.prog w = .ok (decide (a = b)) w := run_eqEv
  unfold evA at heq
  obtain ⟨R, hR⟩ : ∃ R, decide (xs = ys) = R := ⟨_, rfl⟩
  rw [hR]
  have HR := hid hR
  clear hR
  by_cases hl : xs.length = ys.length
  · have hlb : (((xs.length : Nat) : Int) != (ys.length : Nat)) = false := by simp [hl]
    have HL := hid hl
    clear hl
    go_enter Try.func69, Try.ntmps69
    go_wp2
    go_loopw [5] (fun i wr => ∃ k : Nat, k ≤ xs.length ∧ i = .int .i64 k ∧ xs.take k = ys.take k ∧ Keeps [] w wr) (fun i _ => xs.length - (intOf i).toNat)
    case atStart => exact ⟨0, Nat.zero_le _, rfl, by simp, Keeps.refl _ _⟩
    case round =>
      obtain ⟨k, hk, rfl, ht, hkp⟩ := hrel
      have HT := hid ht
      clear ht
      by_cases hlt : k < xs.length
      · have hlt2 : k < ys.length := by rw [← HL.out]; exact hlt
        obtain ⟨x, hx⟩ : ∃ x, xs[k]? = some x := ⟨xs[k], by simp [hlt]⟩
        obtain ⟨y, hy⟩ : ∃ y, ys[k]? = some y := ⟨ys[k], by simp [hlt2]⟩
        obtain ⟨b1, o1, rfl, -, hc1⟩ := (HA.out.keeps hkp (by simp)).at_ (by omega)
        obtain ⟨b2, o2, rfl, -, hc2⟩ := (HB.out.keeps hkp (by simp)).at_ (by omega)
        obtain ⟨x0, x1, x2, x3, x4⟩ := hc1 k x hx
        obtain ⟨y0, y1, y2, y3, y4⟩ := hc2 k y hy
        have heq := heq x y
        obtain ⟨⟨xa, xb⟩, xc, xd, xe⟩ := x
        obtain ⟨⟨ya, yb⟩, yc, yd, ye⟩ := y
        simp only at x0 x1 x2 x3 x4 y0 y1 y2 y3 y4 heq
        clear hc1 hc2
        have HX := hid hx
        have HY := hid hy
        clear hx hy
        have i1 : (k : Int) < xs.length := by omega
        have i2 : (k : Int) < ys.length := by omega
        obtain ⟨D, hD⟩ : ∃ D, decide ((((xa, xb), xc, xd, xe) : Ev) = ((ya, yb), yc, yd, ye)) = D := ⟨_, rfl⟩
        rw [hD] at heq
        have HD := hid hD
        clear hD
        cases D with
        | true =>
          have hxy : (((xa, xb), xc, xd, xe) : Ev) = ((ya, yb), yc, yd, ye) := of_decide_eq_true HD.out
          have hxy := hid hxy
          go_wp2_with fail
          go_quiet (fail)
          go_wp2
          go_roundw
          case rel =>
            refine ⟨k + 1, by omega, by go_num, ?_, hkp.drewN _⟩
            rw [List.take_add_one, List.take_add_one, HX.out, HY.out, HT.out, hxy.out]
          case measure => simp [intOf] <;> omega
        | false =>
          have hxy : ¬ (((xa, xb), xc, xd, xe) : Ev) = ((ya, yb), yc, yd, ye) := of_decide_eq_false HD.out
          have hxy := hid hxy
          go_wp2_with fail
          go_quiet (fail)
          go_wp2
          go_ret
          refine ⟨?_, hkp.drewN _⟩
          have hRf : R = false := by
            rw [← HR.out]
            refine decide_eq_false (fun e => ?_)
            have h3 := HX.out
            rw [e, HY.out] at h3
            injection h3 with h3
            exact hxy.out h3.symm
          rw [hRf]
          rfl
      · have hkl : k = xs.length := by omega
        subst hkl
        have ht := HT.out
        rw [List.take_length, HL.out, List.take_length] at ht
        go_wp2
        go_ret
        refine ⟨?_, hkp⟩
        have hRt : R = true := by
          rw [← HR.out]
          exact decide_eq_true ht
        rw [hRt]
        rfl
  · have hlb : (((xs.length : Nat) : Int) != (ys.length : Nat)) = true := by simp; omega
    have HL := hid hl
    clear hl
    go_enter Try.func69, Try.ntmps69
    go_wp2
    go_ret
    refine ⟨?_, Keeps.refl _ _⟩
    rw [← HR.out, decide_eq_false (fun e => HL.out (by rw [e]))]
    rfl
end Go.Proofs.Ytkeffebcmajhmaa
