/- The walk of SlabFull. -/
import Derived.Test.YtkeffebcmajhmaaSlab8
import Derived.Laws.BitsAllLaws
import Derived.Laws.BitsLemmas
namespace Go.Proofs.Ytkeffebcmajhmaa
open Go.RowKit
set_option linter.unusedVariables false
theorem and_mask (x : Int) (m : Nat) (h : m < 9223372036854775808) : ∃ k : Nat, bits .and .i64 x (m : Int) = k ∧ k ≤ m := by
  have e : (BitVec.ofInt 64 (m : Int)).toNat = m := by
    rw [BitVec.ofInt_natCast, BitVec.toNat_ofNat]; exact Nat.mod_eq_of_lt (by omega)
  refine ⟨(BitVec.ofInt 64 x).toNat &&& m, ?_, Nat.and_le_right⟩
  have hx : (BitVec.ofInt 64 x).toNat &&& m ≤ m := Nat.and_le_right
  show IntKind.i64.wrap ((BitVec.ofInt 64 x &&& BitVec.ofInt 64 (m : Int)).toNat : Int) = _
  rw [BitVec.toNat_and, e, IntKind.wrap_i64]
  omega
theorem Row.hsInN {w : World} {F : List Nat} {v : Value} {n : Nat} {hs : List (Int × Int)} (h : Row w 30 2 v n (handlesV hs)) (hl : hs.length = n) (hF : ∀ k, v.ownBlock = some k → k ∉ F) : HsIn w F v hs := by
  subst hl
  exact h.hsIn hF
def ups (k : Nat) : List Slot := (List.range k).map fun i : Nat => (1, true, (i : Int))
def hups (k : Nat) : List (Int × Int) := (List.range k).map fun i : Nat => ((i : Int), 1)
theorem ups_length (k : Nat) : (ups k).length = k := by simp [ups]
theorem hups_length (k : Nat) : (hups k).length = k := by simp [hups]
theorem ups_get (k i : Nat) (h : i < k) : (ups k)[i]? = some (1, true, (i : Int)) := by simp [ups, h]
theorem hups_get (k i : Nat) (h : i < k) : (hups k)[i]? = some ((i : Int), 1) := by simp [hups, h]
theorem ups_succ (k : Nat) : ups (k + 1) = ups k ++ [(1, true, (k : Int))] := by simp [ups, List.range_succ]
theorem hups_succ (k : Nat) : hups (k + 1) = hups k ++ [((k : Int), 1)] := by simp [hups, List.range_succ]
theorem freeAt_eq {L : List Slot} {m : Nat} (h1 : m ≤ L.length) (h2 : ∀ j d, j < m → L[j]? = some d → d.2.1 = true) (h3 : ∀ d, L[m]? = some d → d.2.1 = false) : freeAt L = m := by
  have hle := freeAt_le L
  rcases Nat.lt_trichotomy (freeAt L) m with h | h | h
  · have hd := List.getElem?_eq_getElem (l := L) (i := freeAt L) (by omega)
    have h4 := h2 _ _ h hd
    rw [freeAt_free hd] at h4
    cases h4
  · exact h
  · have hd := List.getElem?_eq_getElem (l := L) (i := m) (by omega)
    have h4 := h3 _ hd
    rw [freeAt_used h hd] at h4
    cases h4
theorem ups_free (k : Nat) : freeAt (ups k) = k := by
  refine freeAt_eq (by rw [ups_length]; exact Nat.le_refl _) (fun j d hj hd => ?_) (fun d hd => ?_)
  · rw [ups_get k j hj] at hd
    injection hd with hd
    subst hd
    rfl
  · rw [List.getElem?_eq_none (by rw [ups_length]; exact Nat.le_refl _)] at hd
    cases hd
theorem ups_put (k : Nat) : putL (ups k) (k : Int) = ups (k + 1) ∧ putG (ups k) = 1 := by
  unfold putL putG
  rw [ups_free, List.getElem?_eq_none (by rw [ups_length]; exact Nat.le_refl _)]
  exact ⟨(ups_succ k).symm, rfl⟩
/-- some were taken: m is the least that is free. -/
structure Some1 (N : Nat) (L : List Slot) (n : Int) (i m : Nat) : Prop where
  len : L.length = N
  gen : ∀ (j : Nat) (d : Slot), L[j]? = some d → d.1 = 1
  low : ∀ (j : Nat) (d : Slot), j < m → L[j]? = some d → d.2.1 = true
  at_ : ∀ (d : Slot), L[m]? = some d → d.2.1 = false
  hm : m ≤ N
  hn : n ≤ N
  hn2 : (N : Int) - i ≤ n
  h0 : i = 0 → n = N ∧ m = N
  h1 : 0 < i → n < N ∧ m < N
theorem Some1.start (N : Nat) : Some1 N (ups N) N 0 N := by
  refine ⟨ups_length N, fun j d hd => ?_, fun j d hj hd => ?_, fun d hd => ?_, Nat.le_refl _, by omega, by omega, fun _ => ⟨rfl, rfl⟩, by omega⟩
  · have hj := (List.getElem?_eq_some_iff.1 hd).1
    rw [ups_length] at hj
    rw [ups_get N j hj] at hd
    injection hd with hd
    subst hd
    rfl
  · rw [ups_get N j hj] at hd
    injection hd with hd
    subst hd
    rfl
  · rw [List.getElem?_eq_none (by rw [ups_length]; exact Nat.le_refl _)] at hd
    cases hd
theorem Some1.step {N : Nat} {L : List Slot} {n : Int} {i m k : Nat} (h : Some1 N L n i m) (hk : k < N) :
    Some1 N (takeAll L [((k : Int), 1)]).1 (n - (takeAll L [((k : Int), 1)]).2) (i + 1) (min m k) := by
  have hkl : k < L.length := by rw [h.len]; exact hk
  obtain ⟨d, hd⟩ : ∃ d, L[k]? = some d := ⟨L[k], List.getElem?_eq_getElem hkl⟩
  have hg := h.gen k d hd
  obtain ⟨dg, du, dv⟩ := d
  simp only at hg
  subst hg
  cases du with
  | true =>
    have e : takeAll L [((k : Int), 1)] = (L.set k (1, false, dv), 1) := by
      simp [takeAll, take1, live, hd]
    rw [e]
    have hget : ∀ j, (L.set k ((1 : Int), false, dv))[j]? = if k = j then some (1, false, dv) else L[j]? := fun j => by
      rw [List.getElem?_set]
      split
      · rename_i hx
        subst hx
        simp
      · rfl
    have hpos : 0 < i → n < N ∧ m < N := h.h1
    refine ⟨by simp [h.len], fun j x hx => ?_, fun j x hj hx => ?_, fun x hx => ?_, by omega, ?_, ?_, by omega, fun _ => ⟨?_, by omega⟩⟩
    · rw [hget] at hx
      split at hx
      · injection hx with hx
        subst hx
        rfl
      · exact h.gen j x hx
    · rw [hget, if_neg (by omega)] at hx
      exact h.low j x (by omega) hx
    · rw [hget] at hx
      split at hx
      · injection hx with hx
        subst hx
        rfl
      · have : min m k = m := by omega
        rw [this] at hx
        exact h.at_ x hx
    · have := h.hn
      simp
      omega
    · have := h.hn2
      simp
      omega
    · have := h.hn
      simp
      omega
  | false =>
    have e : takeAll L [((k : Int), 1)] = (L, 0) := by
      simp [takeAll, take1, live, hd]
    rw [e]
    have hmk : m ≤ k := by
      rcases Nat.lt_or_ge k m with hlt | hge
      · have := h.low k _ hlt hd
        cases this
      · exact hge
    have hi : 0 < i := by
      rcases Nat.eq_zero_or_pos i with h0 | h0
      · have := (h.h0 h0).2
        omega
      · exact h0
    have h5 := h.h1 hi
    have h6 := h.hn2
    rw [Nat.min_eq_left hmk]
    exact ⟨h.len, h.gen, h.low, h.at_, h.hm, by simp; omega, by simp; omega, by omega, fun _ => ⟨by simp; omega, h5.2⟩⟩
set_option maxHeartbeats 1000000 in
theorem slabFull_out (w : World) (N : Int) (A : Option Addr) (n c : Nat) (hn : n ≤ 9223372036854775807) (hg : N < 1 ∨ (1 ≤ N ∧ 100 < N) ∨ (1 ≤ N ∧ N ≤ 100 ∧ 100 < n)) :
    Calls Try.prog 3 #[.int .i64 N, .slice A n c] w fun e w' => e = .returned (.bool true) ∧ Below w.heap.size w w' := by
  rcases hg with h | ⟨h0, h⟩ | ⟨h0, h1, h⟩
  all_goals
    go_enter Try.func3, Try.ntmps3
    go_wp2_with (go_at_call 18; refine (sknown_any _).mono ?_; rintro e w5 ⟨rfl, hk5⟩)
    go_ret
    exact ⟨rfl, hk5.below (Nat.le_refl _) (by simp)⟩
theorem ups_gen (k : Nat) : ∀ d ∈ ups k, 0 ≤ d.1 ∧ d.1 ≤ 1099511627776 := by
  intro d hd
  simp only [ups, List.mem_map] at hd
  obtain ⟨i, -, rfl⟩ := hd
  simp
set_option maxRecDepth 100000 in
set_option maxHeartbeats 2000000 in
theorem slabFull_in (w : World) (N : Nat) (hN1 : 1 ≤ N) (hN : N ≤ 100) (A : Option Addr) (c : Nat) (free : List Int) (hf : CellsIn w [] (.slice A free.length c) (free.map (.int .i64))) (hfl : free.length ≤ 100) :
    Calls Try.prog 3 #[.int .i64 N, .slice A free.length c] w fun e w' => e = .returned (.bool true) ∧ Below w.heap.size w w' := by
  obtain ⟨i1, hi1, hy0, hy1, hy2⟩ := info_parts handle_info
  have HF := hid hf
  have c1 : ¬ (N : Int) < 1 := by omega
  have c2 : ¬ (100 : Int) < N := by omega
  have c3 : ¬ (100 : Int) < free.length := by omega
  clear hf
  go_enter Try.func3, Try.ntmps3
  go_wp2_with fail
  refine (snew_ok N _ (by omega) (by omega)).mono ?_
  rintro e w1 ⟨rfl, hs1, hk1⟩
  obtain ⟨s, hse⟩ : ∃ s, w.heap.size = s := ⟨_, rfl⟩
  rw [hse] at hs1
  rw [hse]
  have hsl : w.heap.size ≤ s := by omega
  clear hse
  go_wp2_with fail
  go_loopw [7, 8, 9, 10] (fun l i _ _ wr => ∃ (k : Nat) (F : List Nat), k ≤ N ∧ i = .int .i64 k ∧ SRep wr s F N (ups k) k ∧ (∀ j ∈ F, w.heap.size ≤ j) ∧ Row wr 30 2 l k (handlesV (hups k)) ∧ (∀ j, l.ownBlock = some j → w.heap.size ≤ j ∧ j ∉ F) ∧ Keeps [] w wr) (fun _ i _ _ _ => N - (intOf i).toNat)
  case atStart => exact ⟨0, [s], Nat.zero_le _, rfl, hs1, by simpa using hsl, Row.nil _ _ _, by simp [Value.ownBlock], hk1⟩
  case round =>
    clear hs1 hk1
    obtain ⟨k, F, hkN, rfl, hs, hF, hrow, hob, hkp⟩ := hrel
    have HS := hid hs
    have HROW := hid hrow
    have HOB := hid hob
    have HFF := hid hF
    obtain ⟨LA, lc, rfl, -⟩ := hrow.form
    clear hs hrow hob hF
    by_cases hlt : k < N
    · have hne : ((k : Int) == (N : Int)) = false := by simp; omega
      go_wp2_with fail
      refine (sput_any s F N k (ups k) k _ HS.out hne (ups_gen k) (by rw [ups_length]; omega) (by omega) (by omega)).mono ?_
      rintro e w2 ⟨rfl, ⟨F2, hs2, hl2⟩, hk2⟩
      rw [(ups_put k).1] at hs2
      rw [(ups_put k).2, ups_free]
      have hrow2 := HROW.out.keeps hk2 (fun j hj => (HOB.out j hj).2)
      have HS2 := hid hs2
      have HL2 := hid hl2
      have HK2 := hid hk2
      have HR2 := hid hrow2
      clear hs2 hl2 hk2 hrow2 hne
      go_wp2_with (at_builtin; refine wpList_append_row _ rfl (.tmp 60) (.tmp 62) _ rfl 30 i1 _ 2 16 Try.underlying28 hi1 hy0 hy1 hy2 rfl (by omega) (.slice LA k lc) k _ rfl ((HR2.out.alloc _).alloc _) (some ⟨w2.heap.size + 1, 0, none⟩) 1 1 [.int .i64 k, .int .i64 1] rfl (reads_blk2 (Blk.newAt (by simp))) (by simp [Value.oneCell']) (by simp only [maxLen]; omega) (by omega) ?_; intro v3 w3 hv3 hk3 ho3; have HV3 := hid hv3; have HK3 := hid hk3; have HO3 := hid ho3; clear hv3 hk3 ho3)
      go_roundw
      case rel =>
        have hv := HV3.out
        rw [show handlesV (hups k) ++ [Value.int .i64 k, .int .i64 1] = handlesV (hups (k + 1)) by rw [hups_succ]; simp [handlesV]] at hv
        have hF2 : ∀ j ∈ F2, w.heap.size ≤ j := HL2.out.from HFF.out hkp.size
        have hlF2 : ∀ j, (Value.slice LA k lc).ownBlock = some j → j ∉ F2 := fun j hj hx => by
          rcases HL2.out j hx with h | h
          · exact (HOB.out j hj).2 h
          · have := HROW.out.lt j hj
            omega
        have hk23 : Keeps (Value.slice LA k lc).ownBlock.toList w2 w3 := (((Keeps.refl _ w2).alloc _).alloc _).trans HK3.out (fun j hj => .inl hj)
        refine ⟨k + 1, F2, by omega, by go_num, ?_, hF2, hv, fun j hj => ?_, ((hkp.trans HK2.out (fun j hj => .inr (HFF.out j hj))).trans hk23 (fun j hj => .inr (HOB.out j (by simpa using hj)).1))⟩
        · have h := HS2.out.keeps hk23 (fun j hj hx => hlF2 j (by simpa using hx) hj)
          have e : ((k + 1 : Nat) : Int) = (k : Int) + 1 := by omega
          rw [e]
          exact h
        · rcases HO3.out j hj with h | h
          · exact ⟨(HOB.out j h).1, hlF2 j h⟩
          · simp at h
            have h1 := HK2.out.size
            have h2 := hkp.size
            refine ⟨by omega, fun hx => ?_⟩
            have := HS2.out.flt j hx
            omega
      case measure => simp [intOf] <;> omega
    · obtain rfl : k = N := by omega
      go_wp2_with fail
      refine (sput_full s F k (ups k) 0 _ HS.out).mono ?_
      rintro e w2 ⟨rfl, hk2⟩
      have HS2 := hid (HS.out.keeps hk2 (by simp))
      have HR2 := hid (HROW.out.keeps hk2 (by simp))
      have hkp2 := hkp.trans hk2 (by simp)
      clear hk2 HS HROW hkp
      go_wp2_with fail
      obtain ⟨wo, hwo⟩ : ∃ wo : World, wo = w2 := ⟨_, rfl⟩
      subst hwo
      go_loopw [13, 14, 15] (fun lst i _ wr => ∃ (j m : Nat) (L : List Slot) (n : Int), j ≤ free.length ∧ i = .int .i64 j ∧ lst = .int .i64 m ∧ Some1 k L n j m ∧ SRep wr s F k L n ∧ Row wr 30 2 (.slice LA k lc) k (handlesV (hups k)) ∧ Keeps [] w wr) (fun _ i _ _ => free.length - (intOf i).toNat)
      case atStart => exact ⟨0, k, ups k, k, Nat.zero_le _, rfl, rfl, Some1.start k, HS2.out.keeps ((Keeps.refl [] _).alloc _) (by simp), HR2.out.alloc _, hkp2.alloc _⟩
      case round =>
        clear HS2 HR2 hkp2
        obtain ⟨j, m, L, n, hj, rfl, rfl, hS1, hs, hrow, hkp⟩ := hrel
        have HS1 := hid hS1
        have HS := hid hs
        have HROW := hid hrow
        clear hS1 hs hrow
        by_cases hjl : j < free.length
        · obtain ⟨z, hz⟩ : ∃ z, free[j]? = some z := ⟨free[j], by simp [hjl]⟩
          obtain ⟨b, o, rfl, -, hc⟩ := (HF.out.keeps hkp (by simp)).at_ (by simp; omega)
          have hcell := hc j (.int .i64 z) (by simp [hz])
          obtain ⟨q, hq, hq2⟩ := and_mask z 65535 (by omega)
          obtain ⟨r, hr⟩ : ∃ r, q % k = r := ⟨_, rfl⟩
          have hrk : r < k := by rw [← hr]; exact Nat.mod_lt _ (by omega)
          have hri : (r : Int) < k := by omega
          have hmod : (q : Int) % (k : Int) = (r : Int) := by rw [← hr]; simp
          have hsin := Row.hsInN (F := []) HROW.out (hups_length k) (by simp)
          obtain ⟨lb, lo, hla, -, hlc⟩ := hsin.at_ (by rw [hups_length]; omega)
          obtain ⟨e0, e1⟩ := hlc r _ (hups_get k r hrk)
          simp only at e0 e1
          subst hla
          have hmod2 : (bits BinOp.and IntKind.i64 z 65535).tmod (k : Int) = (r : Int) := by
            have h1 : bits BinOp.and IntKind.i64 z 65535 = (q : Int) := hq
            rw [h1, ← hr]
            exact (Int.ofNat_tmod q k).symm
          have hji : (j : Int) < free.length := by omega
          have hn2 : -1099511627776 ≤ n ∧ n ≤ 1099511627776 := by
            have h1 := HS1.out.hn
            have h2 := HS1.out.hn2
            omega
          obtain ⟨hn3, hn4⟩ := hn2
          have hmin : (min m r : Nat) = min m r := rfl
          clear hc hz hlc hsin hmod hr hq
          go_wp2_with fail
          refine (stake_any s F k n L _ [((r : Int), 1)] _ (HS.out.keeps ((Keeps.refl [] wr).alloc _) (by simp)) (hs_new (hs := [((r : Int), 1)]) (Blk.newAt rfl) (fun hx => by have := HS.out.flt _ hx; omega) (by simp)) (by simp) hn3 hn4).mono ?_
          rintro e w3 ⟨rfl, hs3, hk3⟩
          have hS3 := HS1.out.step hrk
          have hk3' : Keeps F wr w3 := ((Keeps.refl F wr).alloc _).trans hk3 (fun j hj => .inl hj)
          have hrow3 := HROW.out.keeps hk3' (fun j hj => (HOB.out j hj).2)
          have hkp3 := hkp.trans hk3' (fun j hj => .inr (HFF.out j hj))
          have HX := hid (⟨hS3, hs3, hrow3, hkp3⟩ : _ ∧ _ ∧ _ ∧ _)
          clear hS3 hs3 hrow3 hkp3 hk3 hk3'
          go_wp2_with fail
          all_goals
            go_roundw
            case rel =>
              refine ⟨j + 1, min m r, _, _, by omega, by go_num, ?_, HX.out.1, HX.out.2.1, HX.out.2.2.1, HX.out.2.2.2⟩
              congr 1
              omega
            case measure => simp [intOf] <;> omega
        · obtain rfl : j = free.length := by omega
          rcases Nat.eq_zero_or_pos free.length with h0 | h0
          · obtain ⟨rfl, rfl⟩ := HS1.out.h0 h0
            obtain rfl : free = [] := List.eq_nil_of_length_eq_zero h0
            have hl0 : ([] : List Int).length = 0 := rfl
            go_wp2_with fail
            refine (sput_full s F m L 7 _ HS.out).mono ?_
            rintro e w3 ⟨rfl, hk3⟩
            have HS3 := hid (HS.out.keeps (hk3.alloc (.cells #[.int .i64 0, .int .i64 0] 30)) (by simp))
            have HK3 := hid ((hkp.trans hk3 (by simp)).alloc (.cells #[.int .i64 0, .int .i64 0] 30))
            clear hk3 hkp
            go_wp2_with (first
              | (go_at_call 22; refine (slen_any s F m m L _ HS3.out).mono ?_; rintro e w4 ⟨rfl, hk4⟩)
              | (go_at_call 18; refine (sknown_any _).mono ?_; rintro e w5 ⟨rfl, hk5⟩))
            go_ret
            exact ⟨rfl, ((HK3.out.trans hk4 (by simp)).trans hk5 (by simp)).below (Nat.le_refl _) (by simp)⟩
          · obtain ⟨hnk, hmk⟩ := HS1.out.h1 h0
            have hml : m < L.length := by rw [HS1.out.len]; exact hmk
            obtain ⟨d, hd⟩ : ∃ d, L[m]? = some d := ⟨L[m], List.getElem?_eq_getElem hml⟩
            have hfree : freeAt L = m := freeAt_eq (by omega) (fun j d hj hd => HS1.out.low j d hj hd) (fun d hd => HS1.out.at_ d hd)
            have hdg : d.1 = 1 := HS1.out.gen m d hd
            have hputg : putG L = 2 := by
              unfold putG
              rw [hfree, hd]
              simp only
              omega
            have hne : (n == (k : Int)) = false := by simp; omega
            have hn2 := HS1.out.hn2
            have HPG := hid hputg
            have HFR := hid hfree
            have HD := hid hd
            have hfp : ((free.length : Int) == 0) = false := beq_eq_false_iff_ne.2 (by omega)
            have hg0 : 0 ≤ d.1 := by omega
            have hg1 : d.1 ≤ 1099511627776 := by omega
            clear hputg hfree hd hdg
            go_wp2_with fail
            refine (sput_old s F k n L d 7 _ HS.out hne (by rw [HFR.out]; exact HD.out) hg0 hg1 (by omega) (by omega)).mono ?_
            rintro e w3 ⟨rfl, -, hk3⟩
            rw [HPG.out, HFR.out]
            have HK3 := hid ((hkp.trans hk3 (fun j hj => .inr (HFF.out j hj))).alloc (.cells #[.int .i64 m, .int .i64 2] 30))
            clear hk3 hkp
            go_wp2_with (go_at_call 18; refine (sknown_any _).mono ?_; rintro e w5 ⟨rfl, hk5⟩)
            go_ret
            exact ⟨rfl, (HK3.out.trans hk5 (by simp)).below (Nat.le_refl _) (by simp)⟩
theorem slabFull_walk (w : World) (N : Int) (_ : (Lit.int .i64 N).wf = true) (fv : Value) (free : List Int) (hf : CellsIn w [] fv (free.map (.int .i64))) (_ : ∀ n ∈ free, (Lit.int .i64 n).wf = true) :
    Calls Try.prog 3 #[.int .i64 N, fv] w fun e w' => e = .returned (.bool true) ∧ Below w.heap.size w w' := by
  have HF := hid hf
  obtain ⟨A, c, rfl, h1, h2⟩ := hf.shape
  simp only [List.length_map] at HF h1 ⊢
  by_cases hg : 1 ≤ N ∧ N ≤ 100 ∧ free.length ≤ 100
  · obtain ⟨g1, g2, g3⟩ := hg
    obtain ⟨k, rfl⟩ := Int.eq_ofNat_of_zero_le (by omega : 0 ≤ N)
    exact slabFull_in w k (by omega) (by omega) A c free HF.out g3
  · exact slabFull_out w N A free.length c (by omega) (by omega)
end Go.Proofs.Ytkeffebcmajhmaa
