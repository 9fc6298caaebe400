/- The walk of RingFinds. -/
import Derived.Test.YtkcncnbjojejeaaNil3
import Derived.Laws.BitsAllLaws
import Derived.Laws.BitsLemmas
namespace Go.Proofs.Ytkcncnbjojejeaa
open Go.RowKit
theorem and_mask (x : Int) (m : Nat) (h : m < 9223372036854775808) : ∃ k : Nat, bits .and .i64 x (m : Int) = k ∧ k ≤ m := by
  have e : (BitVec.ofInt 64 (m : Int)).toNat = m := by
    rw [BitVec.ofInt_natCast, BitVec.toNat_ofNat]; exact Nat.mod_eq_of_lt (by omega)
  refine ⟨(BitVec.ofInt 64 x).toNat &&& m, ?_, Nat.and_le_right⟩
  have hx : (BitVec.ofInt 64 x).toNat &&& m ≤ m := Nat.and_le_right
  show IntKind.i64.wrap ((BitVec.ofInt 64 x &&& BitVec.ofInt 64 (m : Int)).toNat : Int) = _
  rw [BitVec.toNat_and, e, IntKind.wrap_i64]
  omega
theorem new_at (s : Int) (S : Nat) (w : World) (hs : Hid (s = S)) (h1 : 1 ≤ S) (h2 : S ≤ 65536) :
    Calls Try.prog 14 #[.int .i64 s] w fun e w' => e = .returned (.tuple #[.pointer (some ⟨w.heap.size + 1, 0, none⟩), .int .i64 0]) ∧
      RingRep w' (w.heap.size + 1) w.heap.size S 0 [] ∧ Keeps [] w w' := by
  rw [hs.out]
  exact new_ok S w h1 h2
/-- What the search from behind has found when it stands at j. -/
def Want (c : Int) (b : List Int) (n j : Nat) (W : Int) : Prop :=
  (W = -1 ∧ ∀ t, j ≤ t → t < b.length → b.getD t 0 ≠ c) ∨ (∃ t, j ≤ t ∧ t < b.length ∧ b.getD t 0 = c ∧ (∀ s, j ≤ s → s < t → b.getD s 0 ≠ c) ∧ W = (t : Int) - n)
theorem Want.last {c : Int} {b : List Int} {n : Nat} {W : Int} (h : Want c b n n W) : findI c (b.drop n) = W := by
  rcases h with ⟨rfl, h⟩ | ⟨t, h1, h2, h3, h4, rfl⟩
  · refine findI_miss fun j hj => ?_
    rw [List.length_drop] at hj
    have := h (n + j) (by omega) (by omega)
    simpa [List.getD_eq_getElem?_getD, List.getElem?_drop] using this
  · have := findI_hit (c := c) (q := b.drop n) (i := t - n) (by rw [List.length_drop]; omega) (by simpa [List.getD_eq_getElem?_getD, List.getElem?_drop, show n + (t - n) = t by omega] using h3) (fun j hj => by
      have := h4 (n + j) (by omega) (by omega)
      simpa [List.getD_eq_getElem?_getD, List.getElem?_drop] using this)
    rw [this]
    omega
theorem Want.hit {c : Int} {b : List Int} {n j : Nat} (hj : j < b.length) (hc : b.getD j 0 = c) : Want c b n j ((j : Int) - n) :=
  .inr ⟨j, Nat.le_refl _, hj, hc, fun s h1 h2 => by omega, rfl⟩
theorem Want.pass {c : Int} {b : List Int} {n j : Nat} {W : Int} (h : Want c b n (j + 1) W) (hc : b.getD j 0 ≠ c) : Want c b n j W := by
  rcases h with ⟨rfl, h⟩ | ⟨t, h1, h2, h3, h4, rfl⟩
  · refine .inl ⟨rfl, fun t h1 h2 => ?_⟩
    by_cases e : t = j
    · subst e; exact hc
    · exact h t (by omega) h2
  · refine .inr ⟨t, by omega, h2, h3, fun s h5 h6 => ?_, rfl⟩
    by_cases e : s = j
    · subst e; exact hc
    · exact h4 s (by omega) h6
set_option maxHeartbeats 1000000 in
theorem ringFinds_walk (w : World) (bv : Value) (b : List Int) (hb : CellsIn w [] bv (b.map (.int .u8))) (_ : ∀ n ∈ b, (Lit.int .u8 n).wf = true) (skip : Int) (_ : (Lit.int .i64 skip).wf = true) (c : Int) (_ : (Lit.int .u8 c).wf = true) :
    Calls Try.prog 6 #[bv, .int .i64 skip, .int .u8 c] w fun e w' => e = .returned (.bool true) ∧ Below w.heap.size w w' := by
  have HB := hid hb
  obtain ⟨A, cp, rfl, h1, h2⟩ := hb.shape
  simp only [List.length_map] at HB h1 ⊢
  have h3 : b.length ≤ 9223372036854775807 := by omega
  clear hb
  by_cases hbig : 2000 < b.length
  · have hbig' : (2000 : Int) < b.length := by omega
    go_enter Try.func6, Try.ntmps6
    go_wp2
    go_ret
    exact ⟨rfl, Below.refl _ _⟩
  · have hbig' : ¬ (2000 : Int) < b.length := by omega
    obtain ⟨K, hK, hK2⟩ := and_mask skip 4095 (by omega)
    obtain ⟨S, hS⟩ : ∃ S : Nat, (65536 : Int) = S := ⟨65536, rfl⟩
    have hS1 : 1 ≤ S := by omega
    have hS2 : S ≤ 65536 := by omega
    have hS3 : b.length ≤ S := by omega
    have HS := hid hS
    clear hS
    simp only [Int.cast_ofNat_Int] at hK
    go_enter Try.func6, Try.ntmps6
    go_wp2_with fail
    refine (new_at _ S _ HS hS1 hS2).mono ?_
    rintro e w1 ⟨rfl, hr, hk⟩
    obtain ⟨a, ha⟩ : ∃ a, w.heap.size + 1 = a := ⟨_, rfl⟩
    obtain ⟨g, hg⟩ : ∃ g, w.heap.size = g := ⟨_, rfl⟩
    rw [ha, hg] at hr
    rw [ha]
    have hla := hr.lt.1
    have hlg := hr.lt.2
    have hfa : w.heap.size ≤ a := by omega
    have hfg : w.heap.size ≤ g := by omega
    clear ha hg
    go_wp2_with fail
    refine (write_any a g S 0 [] b b.length _ [(.slice A b.length cp, b)] _ ?_ ?_ ?_ ?_ ?_).mono ?_
    · exact hr.keeps ((Keeps.refl [] w1).alloc _) (by simp) (by simp)
    · have h := CellsIn.newM w1 [a, g] [.slice A b.length cp] 32 (0, 0) (by simp; omega) (by simp)
      simpa using h
    · intro r hr0
      simp only [List.mem_cons, List.not_mem_nil, or_false] at hr0
      subst hr0
      exact (HB.out.old (G := [a, g]) (by simp; omega)).keeps (hk.alloc _) (by simp)
    · simp [poured, List.take_of_length_le hS3]
    · simp
    rintro e w2 ⟨rfl, hr2, hk2⟩
    have hk2' : Keeps [] w w2 := (hk.alloc _).trans hk2 (by simp; omega)
    go_wp2_with fail
    refine (skip_any a g S 0 b _ _ hr2).mono ?_
    rintro e w3 ⟨rfl, ⟨f', hr3⟩, hk3⟩
    have hk3' : Keeps [] w w3 := hk2'.trans hk3 (by simp; omega)
    have hcl := clip_le K b.length
    have hm1 : (if (b.length : Int) < K then (b.length : Int) else K) = clip K b.length := by unfold clip; split <;> split <;> omega
    have hm2 : (if b.length < K then (b.length : Int) else K) = clip K b.length := by unfold clip; split <;> split <;> omega
    generalize clip K b.length = n at *
    go_wp2_with fail
    go_loop [10, 11] (fun W i => ∃ (j : Nat) (u : Int), n ≤ j ∧ j ≤ b.length ∧ i = .int .i64 ((j : Int) - 1) ∧ W = .int .i64 u ∧ Want c b n j u) (fun _ i => (intOf i + 1).toNat)
    case atStart => exact ⟨b.length, -1, hcl, Nat.le_refl _, rfl, rfl, .inl ⟨rfl, fun t h1 h2 => by omega⟩⟩
    case round =>
      obtain ⟨j, u, hj1, hj2, rfl, rfl, hw⟩ := hrel
      have HW := hid hw
      clear hw
      by_cases hjn : n < j
      · obtain ⟨i, rfl⟩ : ∃ i, j = i + 1 := ⟨j - 1, by omega⟩
        have hib : i < b.length := by omega
        obtain ⟨x, hx⟩ : ∃ x, b[i]? = some x := ⟨b[i], by simp [hib]⟩
        obtain ⟨bb, bo, rfl, -, hcell⟩ := (HB.out.keeps hk3' (by simp)).at_ (by simp; omega)
        have hc := hcell i (.int .u8 x) (by simp [hx])
        have hxg : b.getD i 0 = x := by simp [hx]
        have HX := hid hxg
        clear hcell hx hxg
        have e1 : (((i + 1 : Nat) : Int) - 1) = i := by omega
        rw [e1]
        have i1 : (n : Int) ≤ i := by omega
        have i2 : (i : Int) < b.length := by omega
        clear e1
        by_cases hxc : x = c
        · have hb : (x == c) = true := by simpa using hxc
          have HXC := hid hxc
          clear hxc
          go_wp2
          go_round
          case rel => exact ⟨i, _, by omega, by omega, rfl, rfl, Want.hit hib (HX.out.trans HXC.out)⟩
          case measure => simp [intOf] <;> omega
        · have hb : (x == c) = false := by simpa using hxc
          go_wp2
          go_round
          case rel => exact ⟨i, _, by omega, by omega, rfl, rfl, HW.out.pass (by rw [HX.out]; exact hxc)⟩
          case measure => simp [intOf] <;> omega
      · obtain rfl : j = n := by omega
        have HL := hid HW.out.last
        have i1 : ¬ (j : Int) ≤ (j : Int) - 1 := by omega
        go_wp2_with (first
          | (go_at_call 26; refine (find_any a g S f' _ c _ hr3).mono ?_; rintro e w4 ⟨rfl, hk4⟩; rw [HL.out])
          | (go_at_call 13; refine (known_any _).mono ?_; rintro e w5 ⟨rfl, hk5⟩))
        go_ret
        exact ⟨rfl, ((hk3'.trans hk4 (by simp)).trans hk5 (by simp)).below (Nat.le_refl _) (by simp)⟩
end Go.Proofs.Ytkcncnbjojejeaa
