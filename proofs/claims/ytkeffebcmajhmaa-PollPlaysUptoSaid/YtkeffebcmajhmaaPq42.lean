/- The walk of PollPlays. -/
import Derived.Test.YtkeffebcmajhmaaPq41
import Derived.Test.YtkeffebcmajhmaaPq27
namespace Go.Proofs.Ytkeffebcmajhmaa
open Go.RowKit
set_option linter.unusedVariables false
set_option linter.unusedSimpArgs false
set_option maxRecDepth 100000 in
set_option maxHeartbeats 16000000 in
theorem pollPlays_walk (w : World) (lv : Value) (l : List PAct) (hl : PActsIn w lv l) (hs : ∀ a ∈ l, a.ps.length ≤ 1048576) :
    Calls Try.prog 17 #[lv] w fun e w' => e = .returned (.bool true) ∧ Below w.heap.size w w' := by
  have HL := hid hl
  have HS := hid hs
  obtain ⟨A, c, rfl, h1, h2⟩ := hl.shape
  clear hl hs
  go_enter Try.func17, Try.ntmps17
  go_wp2_with fail
  go_loopw [3, 4] (fun nn i wr => ∃ (k : Nat) (m : Int), k ≤ l.length ∧ k ≤ 120 ∧ 0 ≤ m ∧ m ≤ 1000 ∧ nn = .int .i64 m ∧ i = .int .i64 k ∧ w = wr) (fun _ i _ => l.length - (intOf i).toNat)
  case atStart => exact ⟨0, 0, Nat.zero_le _, by omega, by omega, by omega, rfl, rfl, rfl⟩
  case round =>
    obtain ⟨k, m, hk, hk120, hm0, hm1, rfl, rfl, rfl⟩ := hrel
    by_cases hlt : k < l.length ∧ k < 120
    · obtain ⟨hl1, hl2⟩ := hlt
      obtain ⟨a, ha⟩ : ∃ a, l[k]? = some a := ⟨l[k], by simp [hl1]⟩
      obtain ⟨bb, o, rfl, hc⟩ := HL.out.at_ (by omega)
      obtain ⟨-, -, -, -, -, -, c6⟩ := hc k a ha
      have hrow := HL.out.rows a (List.mem_of_getElem? ha)
      obtain ⟨PA, pcap, hpe, hp1, hp2⟩ := hrow.shape
      have hsz := HS.out a (List.mem_of_getElem? ha)
      rw [hpe] at c6
      simp only [List.length_map] at c6
      obtain ⟨pl, hpl⟩ : ∃ n, a.ps.length = n := ⟨_, rfl⟩
      rw [hpl] at c6 hsz
      clear hc ha hrow hpe hp1 hp2 hpl
      by_cases hgt : 1000 < m + 1 + (pl : Int)
      · go_wp2_with fail
        refine (pknown_any _).mono ?_
        rintro e w2 ⟨rfl, hk2⟩
        go_wp2_with fail
        go_ret
        exact ⟨rfl, hk2.below (Nat.le_refl _) (by simp)⟩
      · go_wp2_with fail
        go_roundw
        case rel => exact ⟨k + 1, m + 1 + pl, by omega, by omega, by omega, by omega, by go_num, by go_num, trivial⟩
        case measure => simp [intOf] <;> omega
    · rcases (by omega : ¬ k < l.length ∨ (k < l.length ∧ ¬ k < 120)) with h | ⟨h0, h⟩
      all_goals
        go_wp2_with fail
        clear h hlt hk hk120 hm0 hm1
        try clear h0
        refine (nnew_ok 8 w (by omega) (by omega)).mono ?_
        rintro e w1 ⟨rfl, hn, hk1⟩
        go_wp2_with fail
        refine (rnnew_ok 8 w1 (by omega) (by omega)).mono ?_
        rintro e w2 ⟨rfl, hx, hk2⟩
        go_wp2_with fail
        refine (ponew_P w2 w.heap.size _ _ (hn.keeps hk2 (by simp))).mono ?_
        rintro e w3 ⟨pb, F, rfl, hp, hF, hk3⟩
        go_wp2_with fail
        refine (rponew_ok w1.heap.size _ _ w3 (hx.keeps hk3 (by simp)) (fun _ => ⟨0, false, false, false, 0, 0⟩)).mono ?_
        rintro e w4 ⟨xb, G, rfl, hr, hG, hk4⟩
        have HP2 := hid (P2.start hk1 hn hk2 hx hk3 hp hF hk4 hr hG)
        obtain ⟨nb, hnb⟩ : ∃ n, w.heap.size = n := ⟨_, rfl⟩
        obtain ⟨x, hxb⟩ : ∃ n, w1.heap.size = n := ⟨_, rfl⟩
        rw [hnb, hxb] at HP2
        have c0 := HP2.out.cells.1
        clear hn hx hp hF hr hG hk1 hk2 hk3 hk4
        have HQ := hid (HP2.out.begin (q := w4.heap.size + 1) (a := w4.heap.size) (by omega) (by omega) (((Keeps.refl [] w4).alloc (.cells #[.int .i64 0, .int .i64 0] 30)).alloc (.cells #[.pointer (some ⟨pb, 0, none⟩), .pointer (some ⟨xb, 0, none⟩), .slice (some ⟨w4.heap.size, 0, none⟩) 1 1] 124)) (Blk.newAt (by simp)) ((Blk.new w4 _ _).alloc _) (by simp) (Nat.le_refl _))
        clear HP2
        go_wp2_with fail
        go_loopw [14] (fun i wr => ∃ (k : Nat) (N : NS), k ≤ l.length ∧ k ≤ 120 ∧ i = .int .i64 k ∧ QL w wr pb nb xb x (w4.heap.size + 1) ((k * 1024 : Nat) : Int) k N) (fun i _ => l.length - (intOf i).toNat)
        case atStart => exact ⟨0, _, Nat.zero_le _, by omega, rfl, HQ.out⟩
        case round =>
          clear HQ
          obtain ⟨k, N, hk, hk120, rfl, hQ⟩ := hrel
          have HQ := hid hQ
          clear hQ
          by_cases hlt : k < l.length ∧ k < 120
          · obtain ⟨hl1, hl2⟩ := hlt
            obtain ⟨a, ha⟩ : ∃ a, l[k]? = some a := ⟨l[k], by simp [hl1]⟩
            have hkw := HQ.out.keepsW
            obtain ⟨bb, o, rfl, hc⟩ := (HL.out.keeps hkw).at_ (by omega)
            obtain ⟨c0, c1, c2, c3, c4, c5, c6⟩ := hc k a ha
            obtain ⟨bb', o', hve, hcw⟩ := HL.out.at_ (by omega)
            injection hve with hve
            injection hve with e1 e2 _
            subst e1 e2
            have HCW := hid (hcw k a ha)
            have HROW := hid (HL.out.rows a (List.mem_of_getElem? ha))
            have HSZ := hid (HS.out a (List.mem_of_getElem? ha))
            clear hc hcw ha hkw
            go_wp2_with fail
            refine (asks_Q HQ.out (by omega) a HROW.out (by have := HSZ.out; omega)).mono ?_
            rintro e w5 ⟨rfl, hQ2⟩
            have HQ2 := hid hQ2
            clear hQ2 c0 c1 c2 c3 c4 c5 c6 HQ
            obtain ⟨c0, c1, c2, c3, c4, c5, c6⟩ := HCW.out
            replace c0 := cell_keep HQ2.out.keepsW (by simp) c0
            replace c1 := cell_keep HQ2.out.keepsW (by simp) c1
            replace c2 := cell_keep HQ2.out.keepsW (by simp) c2
            replace c3 := cell_keep HQ2.out.keepsW (by simp) c3
            replace c4 := cell_keep HQ2.out.keepsW (by simp) c4
            replace c5 := cell_keep HQ2.out.keepsW (by simp) c5
            replace c6 := cell_keep HQ2.out.keepsW (by simp) c6
            go_wp2_with fail
            refine (wire_Q HQ2.out (by omega) (by omega) a).mono ?_
            rintro e w6 ⟨rfl, N2, hQ3⟩
            rw [show ((k * 1024 : Nat) : Int) + 1024 = (((k + 1) * 1024 : Nat) : Int) by omega] at hQ3
            have HQ3 := hid hQ3
            obtain ⟨s, v, d1, d2, hw⟩ := hQ3.len
            have HW := hid hw
            clear hQ3 hw c0 c1 c2 c3 c4 c5 c6 HQ2 HCW HROW HSZ
            go_wp2_with fail
            obtain ⟨S, hSe⟩ : ∃ S : World → Prop, ∀ w', S w' ↔ (w'.cell? ⟨xb, 1, none⟩ = some (.pointer (some ⟨s, 0, none⟩)) ∧ w'.cell? ⟨s, 4, none⟩ = some (.int .i64 v)) := ⟨_, fun _ => Iff.rfl⟩
            have hSk : ∀ w', Keeps [] w6 w' → S w' := fun w' hk => (hSe _).2 ⟨cell_keep hk (by simp) d1, cell_keep hk (by simp) d2⟩
            refine wp_region_held_drew (S := S) (by kernel_rfl) (hSk _ (Keeps.refl [] w6).drew) (fun hHeld => ?_)
            refine wpAnyH_take (i := 0) (v := ?_) rfl (by kernel_rfl) (by kernel_rfl) (by kernel_rfl) (fun _ _ _ h => h) ?_ (by assumption) ?_
            rotate_left 1
            · first | (apply Or.inl; constructor; rfl; intro Wx hSw; obtain ⟨s1_, s2_⟩ := (hSe _).1 hSw; go_simp; try (with_reducible rfl)) | (apply Or.inr; constructor; rfl; rfl)
            try simp only [Act.put, List.getElem_toArray, List.getElem_cons_succ, List.getElem_cons_zero, List.setIfInBounds_toArray, List.set_cons_zero, List.set_cons_succ]
            refine wpAnyH_take (i := 2) (v := ?_) rfl (by kernel_rfl) (by kernel_rfl) (by kernel_rfl) (fun _ _ _ h => h) ?_ (by assumption) ?_
            rotate_left 1
            · first | (apply Or.inl; constructor; rfl; intro Wx hSw; obtain ⟨s1_, s2_⟩ := (hSe _).1 hSw; go_simp; try (with_reducible rfl)) | (apply Or.inr; constructor; rfl; rfl)
            try simp only [Act.put, List.getElem_toArray, List.getElem_cons_succ, List.getElem_cons_zero, List.setIfInBounds_toArray, List.set_cons_zero, List.set_cons_succ]
            refine wpAnyH_take (i := 3) (v := ?_) rfl (by kernel_rfl) (by kernel_rfl) (by kernel_rfl) (fun _ _ _ h => h) ?_ (by assumption) ?_
            rotate_left 1
            · first | (apply Or.inl; constructor; rfl; intro Wx hSw; obtain ⟨s1_, s2_⟩ := (hSe _).1 hSw; go_simp; try (with_reducible rfl)) | (apply Or.inr; constructor; rfl; rfl)
            try simp only [Act.put, List.getElem_toArray, List.getElem_cons_succ, List.getElem_cons_zero, List.setIfInBounds_toArray, List.set_cons_zero, List.set_cons_succ]
            refine wpAnyH_take (i := 4) (v := ?_) rfl (by kernel_rfl) (by kernel_rfl) (by kernel_rfl) (fun _ _ _ h => h) ?_ (by assumption) ?_
            rotate_left 1
            · first | (apply Or.inl; constructor; rfl; intro Wx hSw; obtain ⟨s1_, s2_⟩ := (hSe _).1 hSw; go_simp; try (with_reducible rfl)) | (apply Or.inr; constructor; rfl; rfl)
            try simp only [Act.put, List.getElem_toArray, List.getElem_cons_succ, List.getElem_cons_zero, List.setIfInBounds_toArray, List.set_cons_zero, List.set_cons_succ]
            refine wpAnyH_take (i := 5) (v := ?_) rfl (by kernel_rfl) (by kernel_rfl) (by kernel_rfl) (fun _ _ _ h => h) ?_ (by assumption) ?_
            rotate_left 1
            · first | (apply Or.inl; constructor; rfl; intro Wx hSw; obtain ⟨s1_, s2_⟩ := (hSe _).1 hSw; go_simp; try (with_reducible rfl)) | (apply Or.inr; constructor; rfl; rfl)
            try simp only [Act.put, List.getElem_toArray, List.getElem_cons_succ, List.getElem_cons_zero, List.setIfInBounds_toArray, List.set_cons_zero, List.set_cons_succ]
            refine wpAnyH_take (i := 6) (v := ?_) rfl (by kernel_rfl) (by kernel_rfl) (by kernel_rfl) (fun _ _ _ h => h) ?_ (by assumption) ?_
            rotate_left 1
            · first | (apply Or.inl; constructor; rfl; intro Wx hSw; obtain ⟨s1_, s2_⟩ := (hSe _).1 hSw; go_simp; try (with_reducible rfl)) | (apply Or.inr; constructor; rfl; rfl)
            try simp only [Act.put, List.getElem_toArray, List.getElem_cons_succ, List.getElem_cons_zero, List.setIfInBounds_toArray, List.set_cons_zero, List.set_cons_succ]
            refine wpAnyH_take (i := 7) (v := ?_) rfl (by kernel_rfl) (by kernel_rfl) (by kernel_rfl) (fun _ _ _ h => h) ?_ (by assumption) ?_
            rotate_left 1
            · first | (apply Or.inl; constructor; rfl; intro Wx hSw; obtain ⟨s1_, s2_⟩ := (hSe _).1 hSw; go_simp; try (with_reducible rfl)) | (apply Or.inr; constructor; rfl; rfl)
            try simp only [Act.put, List.getElem_toArray, List.getElem_cons_succ, List.getElem_cons_zero, List.setIfInBounds_toArray, List.set_cons_zero, List.set_cons_succ]
            refine wpAnyH_take (i := 8) (v := ?_) rfl (by kernel_rfl) (by kernel_rfl) (by kernel_rfl) (fun _ _ _ h => h) ?_ (by assumption) ?_
            rotate_left 1
            · first | (apply Or.inl; constructor; rfl; intro Wx hSw; obtain ⟨s1_, s2_⟩ := (hSe _).1 hSw; go_simp; try (with_reducible rfl)) | (apply Or.inr; constructor; rfl; rfl)
            try simp only [Act.put, List.getElem_toArray, List.getElem_cons_succ, List.getElem_cons_zero, List.setIfInBounds_toArray, List.set_cons_zero, List.set_cons_succ]
            refine wpAnyH_ready (rs := [1]) (by kernel_rfl) (by simp) ?_
            refine AllReadyH.cons rfl (fun K1 hK => ?_) AllReadyH.nil
            go_simp
            refine (HW.out _ ((Keeps.refl [] w6).drew)).mono ?_
            rintro e w7 ⟨rfl, hk7⟩
            have hk67 := (Keeps.refl [] w6).drew.trans hk7 (by simp)
            refine hK.out _ _ (hSk _ hk67) (fun hHeld => ?_)
            clear hK K1
            refine wpAnyH_take (i := 9) (v := ?_) rfl (by kernel_rfl) (by kernel_rfl) (by kernel_rfl) (fun _ _ _ h => h) ?_ (by assumption) ?_
            rotate_left 1
            · first | (apply Or.inl; constructor; rfl; intro Wx hSw; obtain ⟨s1_, s2_⟩ := (hSe _).1 hSw; go_simp; try (with_reducible rfl)) | (apply Or.inr; constructor; rfl; rfl)
            try simp only [Act.put, List.getElem_toArray, List.getElem_cons_succ, List.getElem_cons_zero, List.setIfInBounds_toArray, List.set_cons_zero, List.set_cons_succ]
            refine wpAnyH_done (by kernel_rfl) ?_ _
            have HQ4 := hid (HQ3.out.next hk67)
            clear hk7 hk67 HQ3 HW d1 d2 hSk hSe hHeld
            go_wp2_with fail
            go_roundw
            case rel => exact ⟨k + 1, N2, by omega, by omega, by go_num, HQ4.out⟩
            case measure => simp [intOf] <;> omega
          · rcases (by omega : ¬ k < l.length ∨ (k < l.length ∧ ¬ k < 120)) with h | ⟨h0, h⟩
            all_goals
              go_wp2_with fail
              refine (wait_Q HQ.out (by omega)).mono ?_
              rintro e w5 ⟨v, ES, rfl, hW⟩
              have HW := hid hW
              clear hW
              go_wp2_with fail
              refine (rwait_Q HW.out).mono ?_
              rintro e w6 ⟨v2, rfl, he1, he2, hk6⟩
              go_wp2_with fail
              refine (events_any v v2 ES ES w6 he1 he2).mono ?_
              rw [show decide (ES = ES) = true by simp]
              rintro e w7 ⟨rfl, hk7⟩
              go_wp2_with fail
              refine (pknown_any _).mono ?_
              rintro e w8 ⟨rfl, hk8⟩
              go_wp2_with fail
              go_ret
              exact ⟨rfl, ((hk6.trans hk7 (by simp)).trans hk8 (by simp)).below (Nat.le_refl _) (by simp)⟩
end Go.Proofs.Ytkeffebcmajhmaa
