/- The walk of PoolApart. -/
import Derived.Test.YtkcncnbjojejeaaPoolMostWalk
import Derived.Test.YtkcncnbjojejeaaRefr1
namespace Go.Proofs.Ytkcncnbjojejeaa
open Go.RowKit
set_option linter.unusedVariables false
theorem ring_ptr_info : (Try.prog.info? 25).map (fun i => (i.zero, i.size, i.bytes)) = some (some (.pointer none), 1, 8) := by kernel_rfl
def ringsV (rs : List (Nat × Nat)) : List Value := rs.map fun r => .pointer (some ⟨r.1, 0, none⟩)
theorem ringsV_one (rs : List (Nat × Nat)) : ∀ u ∈ ringsV rs, u.oneCell' = true := by
  intro u hu
  unfold ringsV at hu
  obtain ⟨x, -, rfl⟩ := List.mem_map.1 hu
  rfl
/-- the rings that are lent, each of two bytes of its own. -/
def Lent (w W : World) (p g : Nat) (av : Int) (rs : List (Nat × Nat)) : Prop :=
  ∀ (j : Nat) (r : Nat × Nat), rs[j]? = some r → RingRep W r.1 r.2 4 0 [av, (j : Int)] ∧ r.1 ≠ p ∧ r.1 ≠ g ∧ r.2 ≠ p ∧ r.2 ≠ g ∧ w.heap.size ≤ r.1 ∧ w.heap.size ≤ r.2
theorem Lent.keeps {w W W' : World} {p g : Nat} {av : Int} {rs : List (Nat × Nat)} {K : List Nat} (h : Lent w W p g av rs) (hk : Keeps K W W') (hK : ∀ r ∈ rs, r.1 ∉ K ∧ r.2 ∉ K) : Lent w W' p g av rs := by
  intro j r hr
  obtain ⟨h1, h2⟩ := h j r hr
  obtain ⟨h3, h4⟩ := hK r (List.mem_of_getElem? hr)
  exact ⟨h1.keeps hk h3 h4, h2⟩
theorem Lent.lt {w W : World} {p g : Nat} {av : Int} {rs : List (Nat × Nat)} (h : Lent w W p g av rs) : ∀ r ∈ rs, (r.1 < W.heap.size ∧ r.2 < W.heap.size) ∧ r.1 ≠ p ∧ r.1 ≠ g ∧ r.2 ≠ p ∧ r.2 ≠ g := by
  intro r hr
  obtain ⟨j, hj⟩ := List.getElem?_of_mem hr
  obtain ⟨h1, h2, h3, h4, h5, -⟩ := h j r hj
  exact ⟨h1.lt, h2, h3, h4, h5⟩
theorem Lent.snoc {w W : World} {p g a b : Nat} {av : Int} {rs : List (Nat × Nat)} (h : Lent w W p g av rs) (h1 : RingRep W a b 4 0 [av, (rs.length : Int)]) (h2 : a ≠ p) (h3 : a ≠ g) (h4 : b ≠ p) (h5 : b ≠ g) (h6 : w.heap.size ≤ a) (h7 : w.heap.size ≤ b) : Lent w W p g av (rs ++ [(a, b)]) := by
  intro j r hr
  by_cases hj : j < rs.length
  · rw [List.getElem?_append_left hj] at hr
    exact h j r hr
  · have hjl : j < (rs ++ [(a, b)]).length := (List.getElem?_eq_some_iff.1 hr).1
    have hje : j = rs.length := by simp at hjl; omega
    subst hje
    simp at hr
    subst hr
    exact ⟨h1, h2, h3, h4, h5, h6, h7⟩
set_option maxHeartbeats 1000000 in
theorem poolApart_out (w : World) (N a b : Int) (hg : N < 1 ∨ (1 ≤ N ∧ 20 < N)) :
    Calls Try.prog 11 #[.int .i64 N, .int .u8 a, .int .u8 b] w fun e w' => e = .returned (.bool true) ∧ Below w.heap.size w w' := by
  rcases hg with h | ⟨h0, h⟩
  all_goals
    go_enter Try.func11, Try.ntmps11
    go_wp2_with (go_at_call 34; refine (pknown_any _).mono ?_; rintro e w5 ⟨rfl, hk5⟩)
    go_ret
    exact ⟨rfl, hk5.below (Nat.le_refl _) (by simp)⟩
set_option maxRecDepth 100000 in
set_option maxHeartbeats 4000000 in
theorem poolApart_in (w : World) (N : Nat) (av bv : Int) (hN1 : 1 ≤ N) (hN : N ≤ 20) :
    Calls Try.prog 11 #[.int .i64 N, .int .u8 av, .int .u8 bv] w fun e w' => e = .returned (.bool true) ∧ Below w.heap.size w w' := by
  obtain ⟨i1, hi1, hy0, hy1, hy2⟩ := info_parts ring_ptr_info
  have c1 : ¬ (N : Int) < 1 := by omega
  have c2 : ¬ (20 : Int) < N := by omega
  go_enter Try.func11, Try.ntmps11
  go_wp2_with fail
  refine (pnew_ok N 4 _ (by omega) (by omega) (by omega)).mono ?_
  rintro e w1 ⟨rfl, hp, hk⟩
  rw [← upTo_none] at hp
  obtain ⟨p, hpe⟩ : ∃ p, w.heap.size + 1 = p := ⟨_, rfl⟩
  obtain ⟨g, hge⟩ : ∃ g, w.heap.size = g := ⟨_, rfl⟩
  rw [hpe, hge] at hp
  rw [hpe]
  have hfp : w.heap.size ≤ p := by omega
  have hfg : w.heap.size ≤ g := by omega
  clear hpe hge
  go_wp2_with fail
  go_loopw [9, 10, 11, 12, 13] (fun l i _ _ _ wr => ∃ (k : Nat) (rs : List (Nat × Nat)), k ≤ N ∧ i = .int .i64 k ∧ rs.length = k ∧ PoolRep wr p g (upTo N k true) 4 k ∧ Row wr 25 1 l k (ringsV rs) ∧
    (∀ j, l.ownBlock = some j → w.heap.size ≤ j ∧ j ≠ p ∧ j ≠ g ∧ ∀ r ∈ rs, j ≠ r.1 ∧ j ≠ r.2) ∧ Lent w wr p g av rs ∧ Keeps [] w wr) (fun _ i _ _ _ _ => N - (intOf i).toNat)
  case atStart => exact ⟨0, [], Nat.zero_le _, rfl, rfl, hp, Row.nil _ _ _, by simp [Value.ownBlock], by simp [Lent], hk⟩
  case round =>
    clear hp hk
    obtain ⟨k, rs, hkN, rfl, hrl, hr, hrow, hob, hlent, hkp⟩ := hrel
    have HROW := hid hrow
    have HOB := hid hob
    have HLENT := hid hlent
    have HRL := hid hrl
    obtain ⟨LA, lc, rfl, -⟩ := hrow.form
    have hlp := hr.lt
    clear hrow hob hlent hrl
    by_cases hlt : k < N
    · go_wp2_with fail
      refine (get_ok p g 4 k k (upTo N k true) _ hr (by rw [upTo_length]; exact hlt) (fun j hj => by rw [upTo_getD _ _ _ _ (by omega)]; simp [hj]) (by rw [upTo_getD _ _ _ _ hlt]; simp)).mono ?_
      rintro e w2 ⟨a, b, rfl, hp2, hr2, ha2, hb2, hk2⟩
      rw [upTo_set, upTo_true N k hkN, Nat.max_eq_right (by omega)] at hp2
      have hlr := hr2.lt
      have hz2 := hk2.size
      have HP2 := hid hp2
      have HR2 := hid hr2
      have HK2 := hid hk2
      have hcv : IntKind.u8.wrap (k : Int) = k := by
        rw [IntKind.wrap_u8]
        omega
      clear hp2 hr2 hk2
      go_wp2_with fail
      refine (write_any a b 4 0 [] [av, (k : Int)] 2 _ [(.slice (some ⟨w2.heap.size, 0, none⟩) 2 2, [av, (k : Int)])] _ ?_ ?_ ?_ (by simp [poured]) (by simp)).mono ?_
      · exact HR2.out.keeps (((Keeps.refl [] w2).alloc _).alloc _) (by simp) (by simp)
      · have h := CellsIn.newM (w2.alloc (.cells #[.int .u8 av, .int .u8 k] 5)) [a, b] [.slice (some ⟨w2.heap.size, 0, none⟩) 2 2] 32 (0, 0) (by simp; omega) (by simp)
        simpa using h
      · intro r hr0
        have h1 := (CellsIn.newM w2 [a, b] (bytesV [av, (k : Int)]) 5 (0, 0) (by simp; omega) (by simp [bytesV])).keeps ((Keeps.refl [] _).alloc (.cells #[.slice (some ⟨w2.heap.size, 0, none⟩) 2 2] 32)) (by simp)
        simp only [List.mem_cons, List.not_mem_nil, or_false] at hr0
        subst hr0
        simpa [bytesV] using h1
      rintro e w3 ⟨rfl, hr3, hk3⟩
      have hk23 : Keeps [a, b] w2 w3 := ((((Keeps.refl [a, b] w2).alloc _).alloc _)).trans hk3 (fun j hj => .inl hj)
      have hkr : Keeps [p, g, a, b] wr w3 := (HK2.out.mono (G := [p, g, a, b]) (fun j hj => by simp at hj; rcases hj with h | h <;> simp [h])).trans hk23 (fun j hj => .inl (by simp at hj; rcases hj with h | h <;> simp [h]))
      have hown : ∀ j, (Value.slice LA k lc).ownBlock = some j → j ∉ [p, g, a, b] := fun j hj hx => by
        have h1 := HOB.out j hj
        have h2 := HROW.out.lt j hj
        simp at hx
        omega
      have HP3 := hid (HP2.out.keeps hk23 (by simp; omega) (by simp; omega))
      have HROW3 := hid (HROW.out.keeps hkr hown)
      have HL3 : Hid (Lent w w3 p g av (rs ++ [(a, b)])) := by
        have h1 : Lent w w3 p g av rs := HLENT.out.keeps hkr (fun r hr => by
          have := HLENT.out.lt r hr
          simp
          omega)
        have hw := hkp.size
        refine hid (h1.snoc (by rw [HRL.out]; exact hr3) ?_ ?_ ?_ ?_ ?_ ?_) <;> omega
      have HK3 : Hid (Keeps [] w w3) := hid (hkp.trans hkr (fun j hj => .inr (by
        have := hkp.size
        simp at hj
        omega)))
      have HKR := hid hkr
      have HRK := hid hr3.lt
      clear hr3 hk3 hk23 hkr hown
      go_wp2_with (at_builtin; refine wpList_append_row _ rfl (.tmp 66) (.tmp 68) _ rfl 25 i1 _ 1 8 Try.underlying71 hi1 hy0 hy1 hy2 rfl (by omega) (.slice LA k lc) k _ rfl (HROW3.out.alloc _) (some ⟨w3.heap.size, 0, none⟩) 1 1 [.pointer (some ⟨a, 0, none⟩)] rfl (reads_blk1 (Blk.newAt (by simp))) (by simp [Value.oneCell']) (by simp only [maxLen]; omega) (by omega) ?_; intro v4 w4 hv4 hk4 ho4; have HV4 := hid hv4; have HK4 := hid hk4; have HO4 := hid ho4; clear hv4 hk4 ho4)
      go_roundw
      case rel =>
        have hv := HV4.out
        rw [show ringsV rs ++ [.pointer (some ⟨a, 0, none⟩)] = ringsV (rs ++ [(a, b)]) by simp [ringsV]] at hv
        have hk34 : Keeps (Value.slice LA k lc).ownBlock.toList w3 w4 := ((Keeps.refl _ w3).alloc _).trans HK4.out (fun j hj => .inl hj)
        have hz3 := HKR.out.size
        have hln := HRK.out
        have hne : ∀ j, (Value.slice LA k lc).ownBlock = some j → w.heap.size ≤ j ∧ j ≠ p ∧ j ≠ g ∧ ∀ r ∈ rs ++ [(a, b)], j ≠ r.1 ∧ j ≠ r.2 := fun j hj => by
          have h1 := HOB.out j hj
          have h2 := HROW.out.lt j hj
          refine ⟨h1.1, h1.2.1, h1.2.2.1, fun r hr => ?_⟩
          rcases List.mem_append.1 hr with h | h
          · exact h1.2.2.2 r h
          · simp at h
            subst h
            simp only
            omega
        refine ⟨k + 1, rs ++ [(a, b)], by omega, by go_num, by simp [HRL.out], HP3.out.keeps hk34 (fun hx => ?_) (fun hx => ?_), hv, fun j hj => ?_, HL3.out.keeps hk34 (fun r hr => ⟨fun hx => ?_, fun hx => ?_⟩), HK3.out.trans hk34 (fun j hj => .inr (HOB.out j (by simpa using hj)).1)⟩
        · exact (hne p (by simpa using hx)).2.1 rfl
        · exact (hne g (by simpa using hx)).2.2.1 rfl
        · rcases HO4.out j hj with h | h
          · exact hne j h
          · simp at h
            have h1 := HK3.out.size
            have h2 := HP3.out.lt
            refine ⟨by omega, by omega, by omega, fun r hr => ?_⟩
            have h3 := HL3.out.lt r hr
            omega
        · exact ((hne r.1 (by simpa using hx)).2.2.2 r hr).1 rfl
        · exact ((hne r.2 (by simpa using hx)).2.2.2 r hr).2 rfl
      case measure => simp [intOf] <;> omega
    · obtain rfl : k = N := by omega
      rw [upTo_all] at hr
      have HR := hid hr
      clear hr
      go_wp2_with fail
      obtain ⟨wo, hwo⟩ : ∃ wo : World, wo = wr := ⟨_, rfl⟩
      subst hwo
      go_loopw [14, 15] (fun i _ wr => ∃ j : Nat, j ≤ k ∧ i = .int .i64 j ∧ Keeps [] wo wr) (fun i _ _ => k - (intOf i).toNat)
      case atStart => exact ⟨0, Nat.zero_le _, rfl, Keeps.refl _ _⟩
      case round =>
        obtain ⟨j, hj, rfl, hkj⟩ := hrel
        by_cases hjl : j < k
        · obtain ⟨r, hr⟩ : ∃ r, rs[j]? = some r := ⟨rs[j]'(by rw [HRL.out]; exact hjl), List.getElem?_eq_getElem (by rw [HRL.out]; exact hjl)⟩
          have hring := (HLENT.out j r hr).1.keeps hkj (by simp) (by simp)
          obtain ⟨pb, po, hla, -, hc⟩ := ((HROW.out.keeps hkj (by simp)).cellsIn (F := []) (by simp)).at_ (by simp [ringsV, HRL.out]; omega)
          subst hla
          have hcell := hc j (.pointer (some ⟨r.1, 0, none⟩)) (by simp [ringsV, hr])
          have hji : (j : Int) < k := by omega
          have hcv : IntKind.u8.wrap (j : Int) = j := by
            rw [IntKind.wrap_u8]
            omega
          have HRING := hid hring
          clear hc hr hring
          go_wp2_with fail
          refine (peek_any r.1 r.2 4 0 [av, (j : Int)] 9 _ HRING.out).mono ?_
          rintro e w5 ⟨v5, rfl, hv5, -, hk5⟩
          have hv6 : Row w5 5 1 v5 2 (bytesV [av, (j : Int)]) := hv5
          obtain ⟨qb, qo, qc, rfl, -, -, hqc, -⟩ := hv6.open_ (by omega)
          have q0 := hqc 0 (.int .u8 av) (by simp [bytesV])
          have q1 := hqc 1 (.int .u8 j) (by simp [bytesV])
          have hk6 := hkj.trans hk5 (by simp)
          simp only [Nat.add_zero] at q0
          clear hv5 hv6 hqc hk5 hcell hkj
          go_wp2_with fail
          go_roundw
          case rel => exact ⟨j + 1, by omega, by go_num, hk6⟩
          case measure => simp [intOf] <;> omega
        · obtain rfl : j = k := by omega
          obtain ⟨M, hM⟩ : ∃ M : Nat, M + 1 = j := ⟨j - 1, by omega⟩
          have hMi : (M : Int) = (j : Int) - 1 := by omega
          have hr1 := HR.out.keeps hkj (by simp) (by simp)
          obtain ⟨L0, hL0⟩ : ∃ L0, upTo j 0 false = L0 := ⟨_, rfl⟩
          have hcount := upTo_false j 0 (by omega)
          have hlen := upTo_length j 0 false
          have hget : ∀ q, q < j → L0.getD q false = true := fun q hq => by
            rw [← hL0, upTo_getD _ _ _ _ hq]
            simp
          rw [hL0] at hr1 hcount hlen
          have hps : ([(j : Int) - 1]).foldl putStep L0 = L0.set M false := by
            simp only [List.foldl_cons, List.foldl_nil, putStep]
            rw [← hMi, if_pos ⟨by omega, by simp; omega, by simpa using hget M (by omega)⟩]
            simp
          have hcs := count_set_false L0 M (by omega) (hget M (by omega))
          have HC : Hid (((L0.count true : Nat) : Int) - (([(j : Int) - 1]).foldl putStep L0).count true = 1) := hid (by rw [hps]; omega)
          have HPS := hid hps
          have HMI := hid hMi
          have HG1 : Hid (∀ q, q < M → (L0.set M false).getD q false = true) := hid (fun q hq => by
            rw [getD_set L0 M q false (by omega), if_neg (by omega)]
            exact hget q (by omega))
          have HG2 : Hid ((L0.set M false).getD M false = false) := hid (by rw [getD_set L0 M M false (by omega), if_pos rfl])
          have hML : M < (L0.set M false).length := by rw [List.length_set]; omega
          have hkp1 := hkp.trans hkj (by simp)
          have HL1 := hid (HLENT.out.keeps hkj (by simp))
          have HROW1 := hid (HROW.out.keeps hkj (by simp))
          clear hL0 hcount hlen hget hps hcs hMi
          go_wp2_with fail
          refine (put_any p g 4 j L0 _ [(j : Int) - 1] _ ?_ ?_).mono ?_
          · exact hr1.keeps ((Keeps.refl [] _).alloc _) (by simp) (by simp)
          · have h := CellsIn.newM wr [p, g] [.int .i64 ((j : Int) - 1)] 3 (0, 0) (by have := hr1.lt; simp; omega) (by simp)
            simpa using h
          rintro e w5 ⟨rfl, hp5, hk5⟩
          rw [HC.out]
          rw [HPS.out] at hp5
          have hk5' : Keeps [p, g] wr w5 := ((Keeps.refl [p, g] wr).alloc _).trans hk5 (fun j hj => .inl hj)
          have HP5 := hid hp5
          have HK5 := hid hk5'
          have HL5 := hid (HL1.out.keeps hk5' (fun r hr => by
            have := HL1.out.lt r hr
            simp
            omega))
          have HROW5 := hid (HROW1.out.keeps hk5' (fun q hq hx => by
            have := HOB.out q hq
            simp at hx
            omega))
          clear hp5 hk5 hk5' hr1 HR HC
          go_wp2_with fail
          refine (get_ok p g 4 j M (L0.set M false) _ HP5.out hML HG1.out HG2.out).mono ?_
          rintro e w6 ⟨a, b, rfl, -, hr6, ha6, hb6, hk6⟩
          rw [HMI.out]
          have hlr6 := hr6.lt
          have hz6 := hk6.size
          have HL6 := hid (HL5.out.keeps hk6 (fun r hr => by
            have := HL5.out.lt r hr
            simp
            omega))
          have HROW6 := hid (HROW5.out.keeps hk6 (fun q hq hx => by
            have := HOB.out q hq
            simp at hx
            omega))
          have HK6 : Hid (Keeps [] w w6) := hid ((hkp1.trans HK5.out (fun q hq => .inr (by simp at hq; omega))).trans hk6 (fun q hq => .inr (by simp at hq; omega)))
          have HR6 := hid hr6
          have hlen6 := len_any a 0 w6 (by simpa using hr6.c2)
          have hb5 := HL5.out.lt
          have HB5 := hid hb5
          clear hk6 hr6 hb5
          go_wp2_with fail
          refine hlen6.mono ?_
          rintro e w7 ⟨rfl, rfl⟩
          clear hlen6
          go_wp2_with fail
          refine (write_any a b 4 0 [] [bv] 1 _ [(.slice (some ⟨w6.heap.size, 0, none⟩) 1 1, [bv])] _ ?_ ?_ ?_ (by simp [poured]) (by simp)).mono ?_
          · exact HR6.out.keeps (((Keeps.refl [] w6).alloc _).alloc _) (by simp) (by simp)
          · have h := CellsIn.newM (w6.alloc (.cells #[.int .u8 bv] 5)) [a, b] [.slice (some ⟨w6.heap.size, 0, none⟩) 1 1] 32 (0, 0) (by simp; omega) (by simp)
            simpa using h
          · intro r hr0
            have h1 := (CellsIn.newM w6 [a, b] (bytesV [bv]) 5 (0, 0) (by simp; omega) (by simp [bytesV])).keeps ((Keeps.refl [] _).alloc (.cells #[.slice (some ⟨w6.heap.size, 0, none⟩) 1 1] 32)) (by simp)
            simp only [List.mem_cons, List.not_mem_nil, or_false] at hr0
            subst hr0
            simpa [bytesV] using h1
          rintro e w8 ⟨rfl, -, hk8⟩
          have hk68 : Keeps [a, b] w6 w8 := (((Keeps.refl [a, b] w6).alloc _).alloc _).trans hk8 (fun q hq => .inl hq)
          have hkw8 : Keeps [] w w8 := HK6.out.trans hk68 (fun q hq => .inr (by
            have := hkp1.size
            have := HK5.out.size
            simp at hq
            omega))
          have HKW8 := hid hkw8
          by_cases hj1 : j = 1
          · have hjt : ((j : Int) == 1) = true := by simp; omega
            clear hj1 hk8 hk68 hkw8
            go_wp2_with (go_at_call 34; refine (pknown_any _).mono ?_; rintro e w9 ⟨rfl, hk9⟩)
            go_ret
            exact ⟨rfl, (HKW8.out.trans hk9 (by simp)).below (Nat.le_refl _) (by simp)⟩
          · have hjf : ((j : Int) == 1) = false := by simp; omega
            obtain ⟨r, hr⟩ : ∃ r, rs[0]? = some r := ⟨rs[0]'(by rw [HRL.out]; omega), List.getElem?_eq_getElem (by rw [HRL.out]; omega)⟩
            have hrm := List.mem_of_getElem? hr
            have hb := HB5.out r hrm
            have hring := (HL6.out 0 r hr).1.keeps hk68 (by simp; omega) (by simp; omega)
            have hown6 : ∀ q, (Value.slice LA j lc).ownBlock = some q → q ∉ [a, b] := fun q hq hx => by
              have h1 := HROW5.out.lt q hq
              simp at hx
              omega
            obtain ⟨pb, po, hla, -, hc⟩ := ((HROW6.out.keeps hk68 hown6).cellsIn (F := []) (by simp)).at_ (by simp [ringsV, HRL.out]; omega)
            subst hla
            have hcell := hc 0 (.pointer (some ⟨r.1, 0, none⟩)) (by simp [ringsV, hr])
            simp only [Nat.add_zero] at hcell
            have hji : (0 : Int) < j := by omega
            have hlen8 := len_any r.1 2 w8 (by simpa using hring.c2)
            clear hj1 hk8 hk68 hkw8 hc hr hrm hring hown6
            go_wp2_with (first
              | (go_at_call 28; refine hlen8.mono ?_; rintro e w10 ⟨rfl, rfl⟩)
              | (go_at_call 34; refine (pknown_any _).mono ?_; rintro e w9 ⟨rfl, hk9⟩))
            go_ret
            exact ⟨rfl, (HKW8.out.trans hk9 (by simp)).below (Nat.le_refl _) (by simp)⟩
theorem poolApart_walk (w : World) (N : Int) (_ : (Lit.int .i64 N).wf = true) (a : Int) (_ : (Lit.int .u8 a).wf = true) (b : Int) (_ : (Lit.int .u8 b).wf = true) :
    Calls Try.prog 11 #[.int .i64 N, .int .u8 a, .int .u8 b] w fun e w' => e = .returned (.bool true) ∧ Below w.heap.size w w' := by
  by_cases hg : 1 ≤ N ∧ N ≤ 20
  · obtain ⟨k, rfl⟩ := Int.eq_ofNat_of_zero_le (by omega : 0 ≤ N)
    exact poolApart_in w k a b (by omega) (by omega)
  · exact poolApart_out w N a b (by omega)
end Go.Proofs.Ytkcncnbjojejeaa
