/- The walk of PollPicks. -/
import Derived.Test.YtkeffebcmajhmaaPickN
import Derived.BigQuiet
import Derived.Deep.OwnRows
namespace Go.Proofs.Ytkeffebcmajhmaa
open Go.RowKit
set_option linter.unusedVariables false
theorem pbool_info : (Try.prog.info? 4).map (fun i => (i.zero, i.size, i.bytes)) = some (some (.bool false), 1, 1) := by kernel_rfl
set_option maxRecDepth 100000 in
set_option maxHeartbeats 1000000 in
theorem pollPicks_out (w : World) (n : Int) (pv : Value) (zs : List Int) (hz : CellsIn w [] pv (zs.map (.int .i64))) (h : n < 1 ∨ (1 ≤ n ∧ 20 < n) ∨ (1 ≤ n ∧ n ≤ 20 ∧ 100 < zs.length)) :
    Calls Try.prog 12 #[.int .i64 n, pv] w fun e w' => e = .returned (.bool true) ∧ Below w.heap.size w w' := by
  obtain ⟨A, c, rfl, h1, h2⟩ := hz.shape
  simp only [List.length_map] at h1 ⊢
  clear hz
  rcases h with h | ⟨h0, h⟩ | ⟨h0, h3, h⟩
  · go_enter Try.func12, Try.ntmps12
    go_wp2_with (go_at_call 56; refine (pknown_any _).mono ?_; rintro e w5 ⟨rfl, hk5⟩)
    go_ret
    exact ⟨rfl, hk5.below (Nat.le_refl _) (by simp)⟩
  · go_enter Try.func12, Try.ntmps12
    go_wp2_with (go_at_call 56; refine (pknown_any _).mono ?_; rintro e w5 ⟨rfl, hk5⟩)
    go_ret
    exact ⟨rfl, hk5.below (Nat.le_refl _) (by simp)⟩
  · have h4 : (100 : Int) < zs.length := by omega
    go_enter Try.func12, Try.ntmps12
    go_wp2_with (go_at_call 56; refine (pknown_any _).mono ?_; rintro e w5 ⟨rfl, hk5⟩)
    go_ret
    exact ⟨rfl, hk5.below (Nat.le_refl _) (by simp)⟩
set_option maxRecDepth 100000 in
set_option maxHeartbeats 8000000 in
theorem pollPicks_in (w : World) (n : Nat) (pv : Value) (zs : List Int) (hz : CellsIn w [] pv (zs.map (.int .i64))) (hn1 : 1 ≤ n) (hn2 : n ≤ 20) (hl : zs.length ≤ 100) :
    Calls Try.prog 12 #[.int .i64 n, pv] w fun e w' => e = .returned (.bool true) ∧ Below w.heap.size w w' := by
  have HZ := hid hz
  obtain ⟨A, c, rfl, hc1, hc2⟩ := hz.shape
  simp only [List.length_map] at hc1 HZ ⊢
  clear hz
  have a1 : ¬ (n : Int) < 1 := by omega
  have a2 : ¬ (20 : Int) < n := by omega
  have a3 : ¬ (100 : Int) < zs.length := by omega
  have hmk := fun kl kc wx => run_make_row' (P := Try.prog) 51 4 (.bool false) 1 Try.underlying51 pbool_info rfl kl kc n (by omega) (by omega) wx
  have HMK := hid hmk
  clear hmk
  go_enter Try.func12, Try.ntmps12
  go_wp2_with fail
  refine (nnew_ok 20 w (by omega) (by omega)).mono ?_
  rintro e w1 ⟨rfl, hn1, hk1⟩
  go_wp2_with fail
  refine (ponew_S w w1 w.heap.size _ _ hn1 (by simp) hk1).mono ?_
  rintro e w2 ⟨pb, rfl, hs2⟩
  rw [← pkN_zero] at hs2
  have c2 := hs2.cell
  obtain ⟨nb, hnb⟩ : ∃ nb, w.heap.size = nb := ⟨_, rfl⟩
  rw [hnb] at hs2 c2
  have HS2 := hid hs2
  have HO2 : Hid (OkN (pkN 0) ((3 * 0 : Nat) : Int)) := hid (okN_new 20 (by omega) (by omega))
  have HNB := hid hnb
  clear hs2 hn1 hk1 hnb
  go_wp2_with fail
  go_loopw [9, 10, 11] (fun i _ _ wr => ∃ k : Nat, k ≤ n ∧ i = .int .i64 k ∧ PS w wr pb nb (pkN k) (pkL k) (pkDs k) [] [] ∧ OkN (pkN k) ((3 * k : Nat) : Int)) (fun i _ _ _ => n - (intOf i).toNat)
  case atStart => exact ⟨0, Nat.zero_le _, rfl, HS2.out, HO2.out⟩
  case round =>
    clear HS2 HO2
    obtain ⟨k, hk, rfl, hS, hO⟩ := hrel
    have HS := hid hS
    have HO := hid hO
    have c0 := hS.cell
    clear hS hO c2
    by_cases hlt : k < n
    · have hki : (k : Int) < n := by omega
      have O1 := hid (okN_connect HO.out 1 (by omega))
      rw [pkN_connect k (by omega)] at O1
      have O2 := hid (okN_accept O1.out)
      rw [pkN_accept] at O2
      have O3 := hid (okN_send O2.out k [[1]])
      rw [pkN_send] at O3
      go_wp2_with fail
      refine (connect_P HS.out HO.out (by omega) 1).mono ?_
      rw [pkN_connect k (by omega)]
      rintro e w3 ⟨rfl, hs3⟩
      have c3 := hs3.cell
      have HS3 := hid hs3
      clear hs3 c0
      go_wp2_with fail
      refine (accept_P HS3.out O1.out (by omega)).mono ?_
      rw [pkN_accept]
      rintro e w4 ⟨rfl, hs4⟩
      have c4 := hs4.cell
      have HS4 := hid hs4
      clear hs4 HS3 c3
      go_wp2_with fail
      refine (send_P HS4.out (((Keeps.refl [] w4).alloc _).alloc _) O2.out (by omega) k _ _ (fun F hF => rows_byte 1 hF)).mono ?_
      simp only [List.map_cons, List.map_nil]
      rw [pkN_send]
      rintro e w5 ⟨rfl, hs5⟩
      have c5 := hs5.cell
      have HS5 := hid hs5
      clear hs5 HS4 c4
      go_wp2_with fail
      refine (watch_S HS5.out k true true false (.inr (pkN_state (k + 1) k (by omega))) (pkL_gen k) (by rw [pkL_len]; omega) (by rw [pkDs_len]; omega) (pkDs_new k)).mono ?_
      rw [pkL_free, (pkL_put k).1, (pkL_put k).2, pkDs_step]
      rintro e w6 ⟨rfl, hs6⟩
      have HS6 := hid hs6
      clear hs6 HS5 c5
      go_wp2_with fail
      go_roundw
      case rel => exact ⟨k + 1, by omega, by go_num, HS6.out.next (by (repeat (first | exact Keeps.refl _ _ | apply Keeps.drewN | apply Keeps.drew | apply Keeps.alloc))), O3.out.mono (by omega)⟩
      case measure => simp [intOf] <;> omega
    · have hkn : k = n := by omega
      subst hkn
      go_wp2_with fail
      refine (wait_S HS.out (Keeps.refl [] _) (by rw [pkL_len]; omega) _ zs (fun F hF => (HZ.out.old (fun j hj => (hF j hj).1)).keeps HS.out.keepsW (by simp))).mono ?_
      rintro e w3 ⟨v, rfl, hs3⟩
      obtain ⟨l, hle⟩ : ∃ l, pickE zs (evsP (pkN k) (pkL k) (pkDs k)) = l := ⟨_, rfl⟩
      have hok := pkOk k zs
      rw [hle] at hs3 hok
      have hev := hs3.row (r := (v, l)) (by simp)
      have hkw := hs3.keepsW
      simp only at hev
      obtain ⟨EA, ec, rfl, he1, he2⟩ := hev.shape
      have HEV := hid hev
      have HOK := hid hok
      have HKW := hid hkw
      have hll := hok.len
      clear hs3 HS HO hle hok hev hkw
      rw [hll] at he1 HEV ⊢
      have HLL := hid hll
      clear hll
      have hmk := HMK.out .i64 .i64 w3
      go_wp2_with fail
      have hrow := World.rowIs_made w3 (.bool false) k 4
      have hka : Keeps [] w3 (w3.alloc (.cells (madeCells #[.bool false] k) 4)) := (Keeps.refl [] w3).alloc _
      obtain ⟨w4, hw4⟩ : ∃ x, w3.alloc (.cells (madeCells #[.bool false] k) 4) = x := ⟨_, rfl⟩
      obtain ⟨sb, hsb⟩ : ∃ x, w3.heap.size = x := ⟨_, rfl⟩
      rw [hw4] at hrow hka ⊢
      rw [hsb] at hrow ⊢
      have HROW := hid hrow
      have HKA := hid hka
      have HSB := hid hsb
      clear hrow hka hw4 hsb hmk
      go_loopw [14] (fun i wr => ∃ j : Nat, j ≤ k ∧ i = .int .i64 j ∧ wr.rowIs sb 4 k (seenF l j) ∧ Keeps [sb] w4 wr) (fun i _ => k - (intOf i).toNat)
      case atStart => exact ⟨0, Nat.zero_le _, rfl, HROW.out.congr (fun i hi => by simp [seenF]), Keeps.refl _ _⟩
      case round =>
        clear HROW
        obtain ⟨j, hj, rfl, hR, hK⟩ := hrel
        have HR := hid hR
        have HK := hid hK
        clear hR hK
        by_cases hjl : j < k
        · obtain ⟨b, o, rfl, -, hc⟩ := HEV.out.at_ (by rw [HLL.out]; omega)
          obtain ⟨e, hje⟩ : ∃ e, l[j]? = some e := ⟨l[j]'(by rw [HLL.out]; exact hjl), List.getElem?_eq_getElem _⟩
          obtain ⟨i, hi, rfl⟩ := HOK.out.ev e (List.mem_of_getElem? hje)
          obtain ⟨d0, d1, d2, d3, d4⟩ := hc j _ hje
          have hbs : b ∉ [sb] := fun hx => by
            simp at hx
            have := World.block_lt_of_cell? w3 _ d0
            simp only at this
            have := HSB.out
            omega
          have g2 := cell_keep HK.out hbs (cell_keep HKA.out (by simp) d2)
          have g3 := cell_keep HK.out hbs (cell_keep HKA.out (by simp) d3)
          have g4 := cell_keep HK.out hbs (cell_keep HKA.out (by simp) d4)
          simp only at g2 g3 g4
          have s0 := HR.out.cell hi
          rw [seenF_get HOK.out hje] at s0
          have sf := HR.out.frozen i
          have hi1 : ¬ (i : Int) < 0 := by omega
          have hi2 : (i : Int) < k := by omega
          have hi3 : ¬ (k : Int) ≤ i := by omega
          have hji : (j : Int) < k := by omega
          have HJE := hid hje
          clear hc d0 d1 d2 d3 d4 hbs hje
          go_wp2_with fail
          go_roundw
          case rel => exact ⟨j + 1, by omega, by go_num, (HR.out.set i (.bool true)).congr (fun q hq => seenF_step HJE.out q), HK.out.setCell (p := ⟨sb, i, none⟩) (.inl (by simp)) _⟩
          case measure => simp [intOf] <;> omega
        · have hjk : j = k := by omega
          subst hjk
          go_wp2_with (go_at_call 56; refine (pknown_any _).mono ?_; rintro e w5 ⟨rfl, hk5⟩)
          go_ret
          refine ⟨rfl, ?_⟩
          have h1 : Keeps [] w wr := (HKW.out.trans HKA.out (by simp)).trans HK.out (fun g hg => .inr (by simp at hg; subst hg; have := HSB.out; have := HKW.out.size; omega))
          exact (h1.trans hk5 (by simp)).below (Nat.le_refl _) (by simp)
theorem pollPicks_walk (w : World) (n : Int) (_ : (Lit.int .i64 n).wf = true) (pv : Value) (zs : List Int) (hz : CellsIn w [] pv (zs.map (.int .i64))) (_ : ∀ n ∈ zs, (Lit.int .i64 n).wf = true) :
    Calls Try.prog 12 #[.int .i64 n, pv] w fun e w' => e = .returned (.bool true) ∧ Below w.heap.size w w' := by
  by_cases h1 : n < 1
  · exact pollPicks_out w n pv zs hz (.inl h1)
  · by_cases h2 : 20 < n
    · exact pollPicks_out w n pv zs hz (.inr (.inl ⟨by omega, h2⟩))
    · by_cases h3 : 100 < zs.length
      · exact pollPicks_out w n pv zs hz (.inr (.inr ⟨by omega, by omega, h3⟩))
      · obtain ⟨m, rfl⟩ : ∃ m : Nat, n = m := ⟨n.toNat, by omega⟩
        exact pollPicks_in w m pv zs hz (by omega) (by omega) (by omega)
end Go.Proofs.Ytkeffebcmajhmaa
