/- The walk of OutqParts. -/
import Derived.Test.YtnijemjfbghhmaaOutqDropsWalk
import Derived.Test.YtnijemjfbghhmaaOpen
namespace Go.Proofs.Ytnijemjfbghhmaa
open Go.RowKit
theorem settle_one (L : Nat) : settle [(1, (L : Int))] (L : Int) = ([1], []) := by simp [settle]
theorem settle_less (L : Nat) (_ : 1 < L) : settle [(1, (L : Int))] ((L : Int) - 1) = ([], [(1, 1)]) := by
  have h1 : ¬ (L : Int) ≤ L - 1 := by omega
  simp only [settle, if_neg h1]
  congr 3
  omega
theorem clip_ge (N L : Nat) (h : L ≤ N) : clip (N : Int) L = L := by
  unfold clip
  have := h
  split <;> omega
set_option maxRecDepth 100000 in
set_option maxHeartbeats 4000000 in
theorem outqParts_walk (w : World) (pv : Value) (rows : List (Value × List Int)) (hp : CellsIn w [] pv (rows.map (·.1))) (hrs : ∀ r ∈ rows, CellsIn w [] r.1 (r.2.map (.int .u8))) (_ : ∀ r ∈ rows, ∀ n ∈ r.2, (Lit.int .u8 n).wf = true) :
    Calls Try.prog 4 #[pv] w fun e w' => e = .returned (.bool true) ∧ Below w.heap.size w w' := by
  obtain ⟨i0, hi0, hz0, hz1, hz2⟩ := info_parts byte_info
  have HP := hid hp
  have HR := hid hrs
  obtain ⟨A, c, rfl, hp1, hp2⟩ := hp.shape
  simp only [List.length_map] at HP hp1 ⊢
  have hrl : rows.length ≤ 9223372036854775807 := by omega
  clear hp hrs
  go_enter Try.func4, Try.ntmps4
  go_wp2_with fail
  go_loopw [3, 4, 5] (fun n all i wr => ∃ (k : Nat), k ≤ rows.length ∧ i = .int .i64 k ∧ n = .int .i64 (k + (flat (rows.take k)).length) ∧ k + (flat (rows.take k)).length ≤ 6000 ∧
      Row wr 5 1 all (flat (rows.take k)).length (bytesV (flat (rows.take k))) ∧ (∀ j, all.ownBlock = some j → w.heap.size ≤ j) ∧ Keeps [] w wr) (fun _ _ i _ => rows.length - (intOf i).toNat)
  case atStart => exact ⟨0, Nat.zero_le _, rfl, rfl, by simp [flat], Row.nil _ _ _, by simp [Value.ownBlock], Keeps.refl _ _⟩
  case round =>
    obtain ⟨k, hk, rfl, rfl, hle, hrow, hob, hkp⟩ := hrel
    by_cases hlt : k < rows.length
    · obtain ⟨pb, po, rfl, -, hpc⟩ := (HP.out.keeps hkp (by simp)).at_ (by simpa using (by omega : 0 < rows.length))
      obtain ⟨v, zs, hr0⟩ : ∃ v zs, rows[k]? = some (v, zs) := ⟨rows[k].1, rows[k].2, by simp [hlt]⟩
      have hcell := hpc k v (by simp [hr0])
      have hbz : CellsIn wr [] v (bytesV zs) := (HR.out (v, zs) (List.mem_of_getElem? hr0)).keeps hkp (by simp)
      have HFT := hid (flat_take rows k v zs hr0)
      obtain ⟨cur, hcur⟩ : ∃ cur, flat (rows.take k) = cur := ⟨_, rfl⟩
      rw [hcur] at hrow hle HFT
      rw [hcur]
      clear hcur hpc hr0
      obtain ⟨ZA, zc, rfl, hz1', hz2'⟩ := hbz.shape
      have HRd := hid hbz.reads.2
      have hzl : (bytesV zs).length = zs.length := by simp [bytesV]
      rw [hzl] at hcell HRd hz1'
      clear hzl hbz
      have HROW := hid hrow
      have HOB := hid hob
      clear hrow hob
      by_cases hz6 : 6000 < zs.length
      · go_wp2
        go_ret
        exact ⟨rfl, hkp.below (Nat.le_refl _) (by simp)⟩
      have hw1 : IntKind.i64.wrap (((k : Int) + cur.length + 1) + zs.length) = ((k + cur.length + 1 + zs.length : Nat) : Int) := by
        rw [IntWalk.i64_in _ (by omega)]
        omega
      by_cases hz7 : 6000 < k + cur.length + 1 + zs.length
      · go_wp2
        go_ret
        exact ⟨rfl, hkp.below (Nat.le_refl _) (by simp)⟩
      go_wp2_with (at_builtin; refine wpList_append_row _ rfl (.tmp 29) (.tmp 33) _ rfl 5 i0 _ 1 1 Try.underlying24 hi0 hz0 hz1 hz2 rfl (by omega) u4 cur.length _ rfl HROW.out ZA zs.length zc _ rfl HRd.out (bytesV_one _) (by simp only [maxLen]; omega) (by omega) ?_; intro v1 w1 hv1 hk1 ho1)
      go_roundw
      case rel =>
        refine ⟨k + 1, by omega, by go_num, ?_, ?_, ?_, ?_, hkp.trans hk1 (fun y hy => .inr (HOB.out y (by simpa using hy)))⟩
        · rw [HFT.out, List.length_append]
          go_num
        · rw [HFT.out, List.length_append]
          omega
        · rw [HFT.out, List.length_append]
          simpa [bytesV] using hv1
        · intro j hj
          rcases ho1 j hj with h | h
          · exact HOB.out j h
          · have := hkp.size
            omega
      case measure => simp [intOf] <;> omega
    · have hkl : k = rows.length := by omega
      subst hkl
      rw [List.take_length] at hrow hle
      rw [List.take_length]
      have hfl0 : ∃ L, flat rows = L := ⟨_, rfl⟩
      obtain ⟨L, hL⟩ := hfl0
      rw [hL] at hrow hle
      rw [hL]
      have HL := hid hL
      clear hL
      have HROW := hid hrow
      have HOB := hid hob
      obtain ⟨AA, ac, rfl, -⟩ := hrow.form
      clear hrow hob
      obtain ⟨N, hN⟩ : ∃ N, rows.length + L.length = N := ⟨_, rfl⟩
      have hN' : (rows.length : Int) + L.length = N := by omega
      rw [hN']
      have hrN : rows.length ≤ N := by omega
      have hLN : L.length ≤ N := by omega
      rw [hN] at hle
      clear hN hN'
      have hsz0 := hkp.size
      go_wp2_with fail
      refine (newq _).mono ?_
      rintro e w1 ⟨rfl, hq, hk⟩
      obtain ⟨q, hqe⟩ : ∃ q, wr.heap.size = q := ⟨_, rfl⟩
      rw [hqe] at hq
      rw [hqe]
      have hF : ∀ k ∈ [q], wr.heap.size ≤ k := by simp; omega
      clear hqe
      generalize hFe : [q] = F at hq hF
      clear hFe
      have hkp1 := hkp.trans hk (by simp)
      have hF0 : ∀ k ∈ F, w.heap.size ≤ k := fun k hk => Nat.le_trans hsz0 (hF k hk)
      have hsz1 := hk.size
      go_wp2_with fail
      have hadd := add_any q F [] [] 0 (.slice A rows.length c) rows w1 hq (((HP.out.old hF0).keeps hkp1 (by simp))) (fun r hr => ((HR.out r hr).old hF0).keeps hkp1 (by simp)) (by omega) (by omega) (by rw [HL.out]; simp; omega) (by simp)
      rw [HL.out] at hadd
      refine hadd.mono ?_
      clear hadd
      rintro e w2 ⟨rfl, ⟨F2, hq2, hl2⟩, hk2⟩
      have hkp2 : Keeps [] w w2 := hkp1.trans hk2 (fun x hx => .inr (hF0 x hx))
      have hkr2 : Keeps [] wr w2 := hk.trans hk2 (fun x hx => .inr (hF x hx))
      have hF2 := hl2.from hF hsz1
      simp only [List.nil_append, Int.zero_add] at hq2
      clear hq hk hk2 hl2 hF hF0 hkp1
      go_wp2_with fail
      refine (qlen_any q F2 L _ 1 _ hq2).mono ?_
      rintro e w2' ⟨rfl, rfl⟩
      go_wp2_with fail
      have hn := next_any q F2 L [(1, (L.length : Int))] 1 ((N : Int) + 1) _ hq2 (by omega)
      have hcl : clip ((N : Int) + 1) L.length = L.length := clip_ge (N + 1) L.length (by omega)
      rw [hcl, List.take_length] at hn
      refine hn.mono ?_
      clear hn hcl
      rintro e w3 ⟨v3, rfl, hv3, -, hk3⟩
      have hq3 := hq2.keeps hk3 (by simp)
      have hkr3 : Keeps [] wr w3 := hkr2.trans hk3 (by simp)
      go_wp2_with fail
      refine (same_any _ _ L L _ (hv3.cellsIn (by simp)) ((HROW.out.cellsIn (F := []) (by simp)).keeps hkr3 (by simp))).mono ?_
      rintro e w4 ⟨rfl, hk4⟩
      rw [sameB_self]
      have hq4 := hq3.keeps hk4 (by simp)
      have hkr4 : Keeps [] wr w4 := hkr3.trans hk4 (by simp)
      clear hq2 hq3 hkr2 hkr3 hk3 hk4 hv3 hkp2
      go_wp2_with fail
      refine (left_any q F2 L _ 1 _ hq4 (by simp)).mono ?_
      rintro e w5 ⟨⟨v5, rfl, hv5, -⟩, hk5⟩
      go_wp2_with fail
      refine (ints_any _ _ [1] [1] _ ?_ ?_).mono ?_
      · exact (Row.ints2 (by simpa using hv5)).alloc _
      · have h := CellsIn.newM w5 [] (intsV [1]) 3 (0, 0) (by simp) (by simp [intsV])
        simpa [intsV] using h
      rintro e w6 ⟨rfl, hk6⟩
      rw [sameB_self]
      have hk6' : Keeps [] w4 w6 := (hk5.alloc _).trans hk6 (by simp)
      have hq6 := hq4.keeps hk6' (by simp)
      have hkr6 : Keeps [] wr w6 := hkr4.trans hk6' (by simp)
      clear hq4 hkr4 hk5 hk6 hk6' hv5
      have hsz6 := hkr6.size
      by_cases h1 : 1 < L.length
      · have hw9 : IntKind.i64.wrap ((L.length : Int) - 1) = L.length - 1 := IntWalk.i64_in _ (by omega)
        go_wp2_with fail
        have hd := done_any q F2 L [(1, (L.length : Int))] 1 ((L.length : Int) - 1) _ hq6 (by omega) (by simp) (by intro p hp; simp at hp; subst hp; simp only; omega)
        have hcl : clip ((L.length : Int) - 1) L.length = L.length - 1 := by unfold clip; split <;> omega
        have hcast : ((L.length - 1 : Nat) : Int) = L.length - 1 := by omega
        rw [hcl, hcast, settle_less _ h1] at hd
        refine hd.mono ?_
        clear hd hcl hcast
        rintro e w7 ⟨⟨v7, rfl, hv7, -⟩, ⟨F7, hq7, hl7, -⟩, hk7⟩
        obtain ⟨A7, c7, rfl, -⟩ := hv7.form
        have hkr7 : Keeps [] wr w7 := hkr6.trans hk7 (fun x hx => .inr (hF2 x hx))
        have hF7 := hl7.from hF2 hsz6
        have hq7' : QRep w7 q F7 (L.drop (L.length - 1)) [(1, 1)] 1 := hq7
        have hdl : (L.drop (L.length - 1)).length = 1 := by rw [List.length_drop]; omega
        simp only [List.length_nil]
        clear hq7 hq6 hkr6 hk7 hl7 hF2 hv7
        go_wp2_with fail
        have hd := done_any q F7 (L.drop (L.length - 1)) [(1, 1)] 1 N _ hq7' (by omega) (by simp) (by intro p hp; simp at hp; subst hp; simp only; omega)
        rw [hdl, clip_ge N 1 (by omega)] at hd
        have hst : settle [(1, 1)] ((1 : Nat) : Int) = ([1], []) := settle_one 1
        rw [hst] at hd
        refine hd.mono ?_
        clear hd hst
        rintro e w8 ⟨⟨v8, rfl, hv8, -⟩, ⟨F8, hq8, -, -⟩, hk8⟩
        have hkr8 : Keeps [] wr w8 := hkr7.trans hk8 (fun x hx => .inr (hF7 x hx))
        have hd1 : ((L.drop (L.length - 1)).drop 1) = [] := List.drop_eq_nil_of_le (by omega)
        simp only [hd1] at hq8
        go_wp2_with fail
        refine (ints_any _ _ [1] [1] _ ?_ ?_).mono ?_
        · exact (Row.ints2 (by simpa using hv8)).alloc _
        · have h := CellsIn.newM w8 [] (intsV [1]) 3 (0, 0) (by simp) (by simp [intsV])
          simpa [intsV] using h
        rintro e w9 ⟨rfl, hk9⟩
        rw [sameB_self]
        have hk9' : Keeps [] w8 w9 := ((Keeps.refl [] w8).alloc _).trans hk9 (by simp)
        have hq9 := hq8.keeps hk9' (by simp)
        go_wp2_with fail
        refine (qlen_any q F8 [] [] 1 _ hq9).mono ?_
        rintro e w9' ⟨rfl, rfl⟩
        go_wp2_with (go_at_call 15; refine (known_any _).mono ?_; rintro e w11 ⟨rfl, hk11⟩)
        go_ret
        exact ⟨rfl, ((hkp.trans (hkr8.trans hk9' (by simp)) (by simp)).trans hk11 (by simp)).below (Nat.le_refl _) (by simp)⟩
      · go_wp2_with fail
        have hd := done_any q F2 L [(1, (L.length : Int))] 1 N _ hq6 (by omega) (by simp) (by intro p hp; simp at hp; subst hp; simp only; omega)
        rw [clip_ge N L.length hLN, settle_one] at hd
        refine hd.mono ?_
        clear hd
        rintro e w8 ⟨⟨v8, rfl, hv8, -⟩, ⟨F8, hq8, -, -⟩, hk8⟩
        have hkr8 : Keeps [] wr w8 := hkr6.trans hk8 (fun x hx => .inr (hF2 x hx))
        have hd1 : L.drop L.length = [] := List.drop_eq_nil_of_le (by omega)
        simp only [hd1] at hq8
        go_wp2_with fail
        refine (ints_any _ _ [1] [1] _ ?_ ?_).mono ?_
        · exact (Row.ints2 (by simpa using hv8)).alloc _
        · have h := CellsIn.newM w8 [] (intsV [1]) 3 (0, 0) (by simp) (by simp [intsV])
          simpa [intsV] using h
        rintro e w9 ⟨rfl, hk9⟩
        rw [sameB_self]
        have hk9' : Keeps [] w8 w9 := ((Keeps.refl [] w8).alloc _).trans hk9 (by simp)
        have hq9 := hq8.keeps hk9' (by simp)
        go_wp2_with fail
        refine (qlen_any q F8 [] [] 1 _ hq9).mono ?_
        rintro e w9' ⟨rfl, rfl⟩
        go_wp2_with (go_at_call 15; refine (known_any _).mono ?_; rintro e w11 ⟨rfl, hk11⟩)
        go_ret
        exact ⟨rfl, ((hkp.trans (hkr8.trans hk9' (by simp)) (by simp)).trans hk11 (by simp)).below (Nat.le_refl _) (by simp)⟩
end Go.Proofs.Ytnijemjfbghhmaa
