/- The program's net: Clone, Got, Taken, State by contract. -/
import Derived.Test.YtkeffebcmajhmaaPq06
namespace Go.Proofs.Ytkeffebcmajhmaa
open Go.RowKit
set_option linter.unusedVariables false
set_option linter.unusedSimpArgs false
theorem Row.take {w : World} {e : TypeId} {size : Nat} {xs : List Value} {A : Option Addr} {n c : Nat} (h : Row w e size (.slice A n c) n xs) {m : Nat} (hm : m ≤ n) : Row w e size (.slice A m c) m (xs.take (m * size)) := by
  obtain ⟨h1, h2⟩ := h
  have hms : m * size ≤ n * size := Nat.mul_le_mul_right _ hm
  refine ⟨by rw [List.length_take]; omega, ?_⟩
  rcases h2 with ⟨h2, h3⟩ | ⟨g, off, cap, cur, h2, h3, h4, h5, h6, h7⟩
  · injection h2 with a b c'
    subst a c'
    exact .inl ⟨by rw [show m = 0 by omega], by omega⟩
  · injection h2 with a b c'
    subst a c'
    refine .inr ⟨g, off, c, cur, rfl, h3, by omega, h5, h6, ?_⟩
    rw [← h7, List.take_take, Nat.min_eq_left hms]
theorem u8_info : (Try.prog.info? 5).map (fun i => (i.zero, i.size, i.bytes)) = some (some (.int .u8 0), 1, 1) := by kernel_rfl
/-- bytes of their own. -/
def Fresh (w : World) (l : List Int) (e : Ending) (w' : World) : Prop := ∃ v, e = .returned v ∧ Row w' 5 1 v l.length (bytesV l) ∧ (∀ k, v.ownBlock = some k → w.heap.size ≤ k) ∧ Keeps [] w w'
theorem clone_any (v : Value) (l : List Int) (w : World) (h : Row w 5 1 v l.length (bytesV l)) (hl : l.length ≤ 1099511627776) :
    Calls Try.prog 75 #[v] w (Fresh w l) := by
  obtain ⟨i1, hi1, hy0, hy1, hy2⟩ := info_parts u8_info
  obtain ⟨A, cap, rfl, hc1, hc2, hn, -⟩ := h.form
  cases A with
  | none =>
    obtain ⟨h0, h1⟩ := hn rfl
    rw [h0]
    subst h1
    have hl0 : l = [] := List.eq_nil_of_length_eq_zero h0
    subst hl0
    clear h
    have hnil := fun w => Lib.run_eql_slice_nil (P := Try.prog) w 66 5 none 0 0 0 0 Try.underlying66
    go_enter Try.func75, Try.ntmps75
    go_wp2
    go_ret
    exact ⟨_, rfl, Row.nil _ _ _, by simp [Value.ownBlock], Keeps.refl _ _⟩
  | some a =>
    obtain ⟨m, hm⟩ : ∃ m, l.length = m := ⟨_, rfl⟩
    have HR := hid h.reads
    rw [hm] at HR hl ⊢
    have HM := hid hm
    clear h hn hm
    have hnil := fun w => Lib.run_eql_slice_nil (P := Try.prog) w 66 5 (some a) m cap 0 0 Try.underlying66
    go_enter Try.func75, Try.ntmps75
    go_wp2_with (at_builtin; refine wpList_append_row _ rfl (.tmp 5) (.tmp 6) _ rfl 5 i1 _ 1 1 Try.underlying66 hi1 hy0 hy1 hy2 rfl (by omega) (.slice (some ⟨w.heap.size, 0, none⟩) 0 0) 0 [] rfl (Row.empty w _) (some a) m cap (bytesV l) rfl (by first | exact HR.out.alloc _ | (rw [← HM.out]; exact HR.out.alloc _)) (bytesV_one l) (by simp only [maxLen]; omega) (by omega) ?_; intro v5 w5 hv5 hk5 ho5; have HV5 := hid hv5; have HK5 := hid hk5; have HO5 := hid ho5; clear hv5 hk5 ho5)
    go_ret
    refine ⟨_, rfl, ?_, fun k hk => ?_, ?_⟩
    · have := HV5.out
      rw [HM.out]
      simpa using this
    · rcases HO5.out k hk with h1 | h1
      · simp [Value.ownBlock] at h1
        omega
      · simp at h1
        omega
    · exact ((Keeps.refl [] w).alloc _).trans HK5.out (fun g hg => by simp [Value.ownBlock] at hg; subst hg; exact .inr (Nat.le_refl _))
theorem got_nil (k : Int) (w : World) : Calls Try.prog 43 #[.pointer none, .int .i64 k] w fun e w' => e = .returned (.tuple #[.slice none 0 0, .bool false]) ∧ Keeps [] w w' := by
  go_enter Try.func43, Try.ntmps43
  go_wp2_with (go_at_call 76; refine (nat_nil _ _).mono ?_; rintro e w1 ⟨rfl, hk⟩)
  go_ret2
  exact ⟨rfl, hk⟩
theorem taken_nil (k : Int) (w : World) : Calls Try.prog 45 #[.pointer none, .int .i64 k] w fun e w' => e = .returned (.slice none 0 0) ∧ Keeps [] w w' := by
  go_enter Try.func45, Try.ntmps45
  go_wp2_with (go_at_call 76; refine (nat_nil _ _).mono ?_; rintro e w1 ⟨rfl, hk⟩)
  go_ret
  exact ⟨rfl, hk⟩
theorem Fresh.nil {w w' : World} (hk : Keeps [] w w') : Fresh w [] (.returned (.slice none 0 0)) w' := ⟨_, rfl, Row.nil _ _ _, by simp [Value.ownBlock], hk⟩
theorem taken_any (n : Nat) (F : List Nat) (N : NS) (B k : Int) (w : World) (h : NRep pc w n F N) (hN : OkN N B) (hB : B ≤ 1099511627776) :
    Calls Try.prog 45 #[.pointer (some ⟨n, 0, none⟩), .int .i64 k] w (Fresh w (takenN N k)) := by
  obtain ⟨own, ps, vc, vq, h⟩ := h
  have H := hid h
  unfold takenN
  rcases h.which k with hk | ⟨i, p, d, rfl, hp, hd⟩
  · rw [cnAt_none hk]
    have HK := hid hk
    clear h hk
    simp only
    go_enter Try.func45, Try.ntmps45
    go_wp2_with (go_at_call 76; refine (nat_out H.out _ HK.out).mono ?_; rintro e w1 ⟨rfl, hk⟩)
    go_ret
    exact Fresh.nil hk
  · rw [cnAt_some hd]
    obtain ⟨vi, vo, vt, hc⟩ := h.at_ i p d hp hd
    have HP := hid hp
    have hok := hN.cn d (List.mem_of_getElem? hd)
    have hl : d.told.length ≤ 1099511627776 := by have := hok.told; omega
    have c12 := hc.1.cell 12
    simp [pc] at c12
    have HT := hid hc.2.2.2.2.1
    clear h hc hp hd hok
    simp only
    go_enter Try.func45, Try.ntmps45
    go_wp2_with (first
      | (go_at_call 76; refine (nat_in H.out i p HP.out).mono ?_; rintro e w1 ⟨rfl, hk⟩; have e12 := cell_keep hk (by simp) c12; have HK1 := hid hk; have hz := hk.size; clear hk)
      | (go_at_call 75; refine (clone_any _ d.told _ (HT.out.keeps HK1.out (by simp)) hl).mono ?_; rintro e w2 ⟨v2, rfl, hv2, ho2, hk2⟩; have HV2 := hid hv2; have HO2 := hid ho2; have HK2 := hid hk2; clear hv2 ho2 hk2))
    go_ret
    exact ⟨v2, rfl, HV2.out, fun k hk => by have := HO2.out k hk; omega, HK1.out.trans HK2.out (by simp)⟩
def GotPost (w : World) (r : List Int × Bool) (e : Ending) (w' : World) : Prop := ∃ v, e = .returned (.tuple #[v, .bool r.2]) ∧ Row w' 5 1 v r.1.length (bytesV r.1) ∧ (∀ k, v.ownBlock = some k → w.heap.size ≤ k) ∧ Keeps [] w w'
set_option maxHeartbeats 4000000 in
theorem got_any (n : Nat) (F : List Nat) (N : NS) (B k : Int) (w : World) (h : NRep pc w n F N) (hN : OkN N B) (hB : B ≤ 1099511627776) :
    Calls Try.prog 43 #[.pointer (some ⟨n, 0, none⟩), .int .i64 k] w (GotPost w (gotN N k)) := by
  obtain ⟨own, ps, vc, vq, h⟩ := h
  have H := hid h
  unfold gotN
  rcases h.which k with hk | ⟨i, p, d, rfl, hp, hd⟩
  · rw [cnAt_none hk]
    have HK := hid hk
    clear h hk
    simp only
    go_enter Try.func43, Try.ntmps43
    go_wp2_with (go_at_call 76; refine (nat_out H.out _ HK.out).mono ?_; rintro e w1 ⟨rfl, hk⟩)
    go_ret2
    exact ⟨_, rfl, Row.nil _ _ _, by simp [Value.ownBlock], hk⟩
  · rw [cnAt_some hd]
    obtain ⟨vi, vo, vt, hc⟩ := h.at_ i p d hp hd
    have HP := hid hp
    have hok := hN.cn d (List.mem_of_getElem? hd)
    have hl : d.got.length ≤ 1099511627776 := by have := hok.got; omega
    have c1 := hc.1.cell 1
    have c2 := hc.1.cell 2
    have c5 := hc.1.cell 5
    have c6 := hc.1.cell 6
    have c11 := hc.1.cell 11
    simp [pc] at c1 c2 c5 c6 c11
    have HT := hid hc.2.2.2.1.1
    obtain ⟨g, hg⟩ : ∃ g, d.got = g := ⟨_, rfl⟩
    obtain ⟨b1, hb1⟩ : ∃ b, d.opn = b := ⟨_, rfl⟩
    obtain ⟨b2, hb2⟩ : ∃ b, d.broken = b := ⟨_, rfl⟩
    obtain ⟨b5, hb5⟩ : ∃ b, d.shut = b := ⟨_, rfl⟩
    obtain ⟨b6, hb6⟩ : ∃ b, d.taken = b := ⟨_, rfl⟩
    rw [hb1] at c1
    rw [hb2] at c2
    rw [hb5] at c5
    rw [hb6] at c6
    rw [hg] at HT hl
    simp only [hb1, hb2, hb5, hb6, hg]
    clear h hc hp hd hok hb1 hb2 hb5 hb6 hg
    have HCL : Hid (∀ W, Keeps [] w W → Calls Try.prog 75 #[vo] W (Fresh W g)) := hid fun W hW => clone_any vo g W (HT.out.keeps hW (by simp)) hl
    obtain ⟨S, hSe⟩ : ∃ S : World → Prop, ∀ w', S w' ↔ (w'.cell? ⟨p, 1, none⟩ = some (.bool b1) ∧ w'.cell? ⟨p, 2, none⟩ = some (.bool b2) ∧ w'.cell? ⟨p, 5, none⟩ = some (.bool b5) ∧ w'.cell? ⟨p, 6, none⟩ = some (.bool b6) ∧ w'.cell? ⟨p, 11, none⟩ = some vo) := ⟨_, fun _ => Iff.rfl⟩
    cases b1 <;> cases b2 <;> cases b5 <;> cases b6
    all_goals
      go_enter Try.func43, Try.ntmps43
      go_wp2_with (go_at_call 76; refine (nat_in H.out i p HP.out).mono ?_; rintro e w1 ⟨rfl, hk⟩; have e1 := cell_keep hk (by simp) c1; have e2 := cell_keep hk (by simp) c2; have e5 := cell_keep hk (by simp) c5; have e6 := cell_keep hk (by simp) c6; have e11 := cell_keep hk (by simp) c11; have HK1 := hid hk; have hz := hk.size; clear hk)
      have hSw1 : S w1.drew := (hSe _).2 ⟨e1, e2, e5, e6, e11⟩
      refine wp_region_held_drew (S := S) (by kernel_rfl) hSw1 (fun hHeld => ?_)
      refine wpAnyH_take (i := 0) (v := ?_) rfl (by kernel_rfl) (by kernel_rfl) (by kernel_rfl) (fun _ _ _ h => h) ?_ (by assumption) ?_
      rotate_left 1
      · first | (apply Or.inl; constructor; rfl; intro W hSw; obtain ⟨s1, s2, s5, s6, s11⟩ := (hSe W).1 hSw; go_simp; try (with_reducible rfl)) | (apply Or.inr; constructor; rfl; rfl)
      try simp only [Act.put, List.getElem_toArray, List.getElem_cons_succ, List.getElem_cons_zero, List.setIfInBounds_toArray, List.set_cons_zero, List.set_cons_succ]
      refine wpAnyH_take (i := 1) (v := ?_) rfl (by kernel_rfl) (by kernel_rfl) (by kernel_rfl) (fun _ _ _ h => h) ?_ (by assumption) ?_
      rotate_left 1
      · first | (apply Or.inl; constructor; rfl; intro W hSw; obtain ⟨s1, s2, s5, s6, s11⟩ := (hSe W).1 hSw; go_simp; try (with_reducible rfl)) | (apply Or.inr; constructor; rfl; rfl)
      try simp only [Act.put, List.getElem_toArray, List.getElem_cons_succ, List.getElem_cons_zero, List.setIfInBounds_toArray, List.set_cons_zero, List.set_cons_succ]
      refine wpAnyH_take (i := 2) (v := ?_) rfl (by kernel_rfl) (by kernel_rfl) (by kernel_rfl) (fun _ _ _ h => h) ?_ (by assumption) ?_
      rotate_left 1
      · first | (apply Or.inl; constructor; rfl; intro W hSw; obtain ⟨s1, s2, s5, s6, s11⟩ := (hSe W).1 hSw; go_simp; try (with_reducible rfl)) | (apply Or.inr; constructor; rfl; rfl)
      try simp only [Act.put, List.getElem_toArray, List.getElem_cons_succ, List.getElem_cons_zero, List.setIfInBounds_toArray, List.set_cons_zero, List.set_cons_succ]
      refine wpAnyH_take (i := 3) (v := ?_) rfl (by kernel_rfl) (by kernel_rfl) (by kernel_rfl) (fun _ _ _ h => h) ?_ (by assumption) ?_
      rotate_left 1
      · first | (apply Or.inl; constructor; rfl; intro W hSw; obtain ⟨s1, s2, s5, s6, s11⟩ := (hSe W).1 hSw; go_simp; try (with_reducible rfl)) | (apply Or.inr; constructor; rfl; rfl)
      try simp only [Act.put, List.getElem_toArray, List.getElem_cons_succ, List.getElem_cons_zero, List.setIfInBounds_toArray, List.set_cons_zero, List.set_cons_succ]
      refine wpAnyH_take (i := 5) (v := ?_) rfl (by kernel_rfl) (by kernel_rfl) (by kernel_rfl) (fun _ _ _ h => h) ?_ (by assumption) ?_
      rotate_left 1
      · first | (apply Or.inl; constructor; rfl; intro W hSw; obtain ⟨s1, s2, s5, s6, s11⟩ := (hSe W).1 hSw; go_simp; try (with_reducible rfl)) | (apply Or.inr; constructor; rfl; rfl)
      try simp only [Act.put, List.getElem_toArray, List.getElem_cons_succ, List.getElem_cons_zero, List.setIfInBounds_toArray, List.set_cons_zero, List.set_cons_succ]
      refine wpAnyH_take (i := 6) (v := ?_) rfl (by kernel_rfl) (by kernel_rfl) (by kernel_rfl) (fun _ _ _ h => h) ?_ (by assumption) ?_
      rotate_left 1
      · first | (apply Or.inl; constructor; rfl; intro W hSw; obtain ⟨s1, s2, s5, s6, s11⟩ := (hSe W).1 hSw; go_simp; try (with_reducible rfl)) | (apply Or.inr; constructor; rfl; rfl)
      try simp only [Act.put, List.getElem_toArray, List.getElem_cons_succ, List.getElem_cons_zero, List.setIfInBounds_toArray, List.set_cons_zero, List.set_cons_succ]
      refine wpAnyH_take (i := 7) (v := ?_) rfl (by kernel_rfl) (by kernel_rfl) (by kernel_rfl) (fun _ _ _ h => h) ?_ (by assumption) ?_
      rotate_left 1
      · first | (apply Or.inl; constructor; rfl; intro W hSw; obtain ⟨s1, s2, s5, s6, s11⟩ := (hSe W).1 hSw; go_simp; try (with_reducible rfl)) | (apply Or.inr; constructor; rfl; rfl)
      try simp only [Act.put, List.getElem_toArray, List.getElem_cons_succ, List.getElem_cons_zero, List.setIfInBounds_toArray, List.set_cons_zero, List.set_cons_succ]
      refine wpAnyH_take (i := 8) (v := ?_) rfl (by kernel_rfl) (by kernel_rfl) (by kernel_rfl) (fun _ _ _ h => h) ?_ (by assumption) ?_
      rotate_left 1
      · first | (apply Or.inl; constructor; rfl; intro W hSw; obtain ⟨s1, s2, s5, s6, s11⟩ := (hSe W).1 hSw; go_simp; try (with_reducible rfl)) | (apply Or.inr; constructor; rfl; rfl)
      try simp only [Act.put, List.getElem_toArray, List.getElem_cons_succ, List.getElem_cons_zero, List.setIfInBounds_toArray, List.set_cons_zero, List.set_cons_succ]
      refine wpAnyH_ready (rs := [4]) (by kernel_rfl) (by simp) ?_
      refine AllReadyH.cons rfl (fun K hK => ?_) AllReadyH.nil
      go_simp
      refine (HCL.out _ (HK1.out.drew)).mono ?_
      rintro e w2 ⟨v2, rfl, hv2, ho2, hk2⟩
      refine hK.out _ _ ((hSe _).2 ⟨cell_keep hk2 (by simp) e1, cell_keep hk2 (by simp) e2, cell_keep hk2 (by simp) e5, cell_keep hk2 (by simp) e6, cell_keep hk2 (by simp) e11⟩) (fun hHeld => ?_)
      clear hK K
      try simp only [Act.put, List.getElem_toArray, List.getElem_cons_succ, List.getElem_cons_zero, List.setIfInBounds_toArray, List.set_cons_zero, List.set_cons_succ]
      refine wpAnyH_take (i := 9) (v := ?_) rfl (by kernel_rfl) (by kernel_rfl) (by kernel_rfl) (fun _ _ _ h => h) ?_ (by assumption) ?_
      rotate_left 1
      · first | (apply Or.inl; constructor; rfl; intro W hSw; obtain ⟨s1, s2, s5, s6, s11⟩ := (hSe W).1 hSw; go_simp; try (with_reducible rfl)) | (apply Or.inr; constructor; rfl; rfl)
      try simp only [Act.put, List.getElem_toArray, List.getElem_cons_succ, List.getElem_cons_zero, List.setIfInBounds_toArray, List.set_cons_zero, List.set_cons_succ]
      refine wpAnyH_take (i := 10) (v := ?_) rfl (by kernel_rfl) (by kernel_rfl) (by kernel_rfl) (fun _ _ _ h => h) ?_ (by assumption) ?_
      rotate_left 1
      · first | (apply Or.inl; constructor; rfl; intro W hSw; obtain ⟨s1, s2, s5, s6, s11⟩ := (hSe W).1 hSw; go_simp; try (with_reducible rfl)) | (apply Or.inr; constructor; rfl; rfl)
      try simp only [Act.put, List.getElem_toArray, List.getElem_cons_succ, List.getElem_cons_zero, List.setIfInBounds_toArray, List.set_cons_zero, List.set_cons_succ]
      refine wpAnyH_take (i := 11) (v := ?_) rfl (by kernel_rfl) (by kernel_rfl) (by kernel_rfl) (fun _ _ _ h => h) ?_ (by assumption) ?_
      rotate_left 1
      · first | (apply Or.inl; constructor; rfl; intro W hSw; obtain ⟨s1, s2, s5, s6, s11⟩ := (hSe W).1 hSw; go_simp; try (with_reducible rfl)) | (apply Or.inr; constructor; rfl; rfl)
      try simp only [Act.put, List.getElem_toArray, List.getElem_cons_succ, List.getElem_cons_zero, List.setIfInBounds_toArray, List.set_cons_zero, List.set_cons_succ]
      refine wpAnyH_take (i := 12) (v := ?_) rfl (by kernel_rfl) (by kernel_rfl) (by kernel_rfl) (fun _ _ _ h => h) ?_ (by assumption) ?_
      rotate_left 1
      · first | (apply Or.inl; constructor; rfl; intro W hSw; obtain ⟨s1, s2, s5, s6, s11⟩ := (hSe W).1 hSw; go_simp; try (with_reducible rfl)) | (apply Or.inr; constructor; rfl; rfl)
      try simp only [Act.put, List.getElem_toArray, List.getElem_cons_succ, List.getElem_cons_zero, List.setIfInBounds_toArray, List.set_cons_zero, List.set_cons_succ]
      refine wpAnyH_take (i := 13) (v := ?_) rfl (by kernel_rfl) (by kernel_rfl) (by kernel_rfl) (fun _ _ _ h => h) ?_ (by assumption) ?_
      rotate_left 1
      · first | (apply Or.inl; constructor; rfl; intro W hSw; obtain ⟨s1, s2, s5, s6, s11⟩ := (hSe W).1 hSw; go_simp; try (with_reducible rfl)) | (apply Or.inr; constructor; rfl; rfl)
      try simp only [Act.put, List.getElem_toArray, List.getElem_cons_succ, List.getElem_cons_zero, List.setIfInBounds_toArray, List.set_cons_zero, List.set_cons_succ]
      refine wpAnyH_take (i := 14) (v := ?_) rfl (by kernel_rfl) (by kernel_rfl) (by kernel_rfl) (fun _ _ _ h => h) ?_ (by assumption) ?_
      rotate_left 1
      · first | (apply Or.inl; constructor; rfl; intro W hSw; obtain ⟨s1, s2, s5, s6, s11⟩ := (hSe W).1 hSw; go_simp; try (with_reducible rfl)) | (apply Or.inr; constructor; rfl; rfl)
      try simp only [Act.put, List.getElem_toArray, List.getElem_cons_succ, List.getElem_cons_zero, List.setIfInBounds_toArray, List.set_cons_zero, List.set_cons_succ]
      refine wpAnyH_take (i := 15) (v := ?_) rfl (by kernel_rfl) (by kernel_rfl) (by kernel_rfl) (fun _ _ _ h => h) ?_ (by assumption) ?_
      rotate_left 1
      · first | (apply Or.inl; constructor; rfl; intro W hSw; obtain ⟨s1, s2, s5, s6, s11⟩ := (hSe W).1 hSw; go_simp; try (with_reducible rfl)) | (apply Or.inr; constructor; rfl; rfl)
      try simp only [Act.put, List.getElem_toArray, List.getElem_cons_succ, List.getElem_cons_zero, List.setIfInBounds_toArray, List.set_cons_zero, List.set_cons_succ]
      refine wpAnyH_take (i := 16) (v := ?_) rfl (by kernel_rfl) (by kernel_rfl) (by kernel_rfl) (fun _ _ _ h => h) ?_ (by assumption) ?_
      rotate_left 1
      · first | (apply Or.inl; constructor; rfl; intro W hSw; obtain ⟨s1, s2, s5, s6, s11⟩ := (hSe W).1 hSw; go_simp; try (with_reducible rfl)) | (apply Or.inr; constructor; rfl; rfl)
      try simp only [Act.put, List.getElem_toArray, List.getElem_cons_succ, List.getElem_cons_zero, List.setIfInBounds_toArray, List.set_cons_zero, List.set_cons_succ]
      refine wpAnyH_take (i := 17) (v := ?_) rfl (by kernel_rfl) (by kernel_rfl) (by kernel_rfl) (fun _ _ _ h => h) ?_ (by assumption) ?_
      rotate_left 1
      · first | (apply Or.inl; constructor; rfl; intro W hSw; obtain ⟨s1, s2, s5, s6, s11⟩ := (hSe W).1 hSw; go_simp; try (with_reducible rfl)) | (apply Or.inr; constructor; rfl; rfl)
      try simp only [Act.put, List.getElem_toArray, List.getElem_cons_succ, List.getElem_cons_zero, List.setIfInBounds_toArray, List.set_cons_zero, List.set_cons_succ]
      refine wpAnyH_take (i := 18) (v := ?_) rfl (by kernel_rfl) (by kernel_rfl) (by kernel_rfl) (fun _ _ _ h => h) ?_ (by assumption) ?_
      rotate_left 1
      · first | (apply Or.inl; constructor; rfl; intro W hSw; obtain ⟨s1, s2, s5, s6, s11⟩ := (hSe W).1 hSw; go_simp; try (with_reducible rfl)) | (apply Or.inr; constructor; rfl; rfl)
      try simp only [Act.put, List.getElem_toArray, List.getElem_cons_succ, List.getElem_cons_zero, List.setIfInBounds_toArray, List.set_cons_zero, List.set_cons_succ]
      refine wpAnyH_take (i := 19) (v := ?_) rfl (by kernel_rfl) (by kernel_rfl) (by kernel_rfl) (fun _ _ _ h => h) ?_ (by assumption) ?_
      rotate_left 1
      · first | (apply Or.inl; constructor; rfl; intro W hSw; obtain ⟨s1, s2, s5, s6, s11⟩ := (hSe W).1 hSw; go_simp; try (with_reducible rfl)) | (apply Or.inr; constructor; rfl; rfl)
      try simp only [Act.put, List.getElem_toArray, List.getElem_cons_succ, List.getElem_cons_zero, List.setIfInBounds_toArray, List.set_cons_zero, List.set_cons_succ]
      refine wpAnyH_take (i := 20) (v := ?_) rfl (by kernel_rfl) (by kernel_rfl) (by kernel_rfl) (fun _ _ _ h => h) ?_ (by assumption) ?_
      rotate_left 1
      · first | (apply Or.inl; constructor; rfl; intro W hSw; obtain ⟨s1, s2, s5, s6, s11⟩ := (hSe W).1 hSw; go_simp; try (with_reducible rfl)) | (apply Or.inr; constructor; rfl; rfl)
      try simp only [Act.put, List.getElem_toArray, List.getElem_cons_succ, List.getElem_cons_zero, List.setIfInBounds_toArray, List.set_cons_zero, List.set_cons_succ]
      refine wpAnyH_take (i := 21) (v := ?_) rfl (by kernel_rfl) (by kernel_rfl) (by kernel_rfl) (fun _ _ _ h => h) ?_ (by assumption) ?_
      rotate_left 1
      · first | (apply Or.inl; constructor; rfl; intro W hSw; obtain ⟨s1, s2, s5, s6, s11⟩ := (hSe W).1 hSw; go_simp; try (with_reducible rfl)) | (apply Or.inr; constructor; rfl; rfl)
      try simp only [Act.put, List.getElem_toArray, List.getElem_cons_succ, List.getElem_cons_zero, List.setIfInBounds_toArray, List.set_cons_zero, List.set_cons_succ]
      refine wpAnyH_take (i := 22) (v := ?_) rfl (by kernel_rfl) (by kernel_rfl) (by kernel_rfl) (fun _ _ _ h => h) ?_ (by assumption) ?_
      rotate_left 1
      · first | (apply Or.inl; constructor; rfl; intro W hSw; obtain ⟨s1, s2, s5, s6, s11⟩ := (hSe W).1 hSw; go_simp; try (with_reducible rfl)) | (apply Or.inr; constructor; rfl; rfl)
      try simp only [Act.put, List.getElem_toArray, List.getElem_cons_succ, List.getElem_cons_zero, List.setIfInBounds_toArray, List.set_cons_zero, List.set_cons_succ]
      refine wpAnyH_take (i := 23) (v := ?_) rfl (by kernel_rfl) (by kernel_rfl) (by kernel_rfl) (fun _ _ _ h => h) ?_ (by assumption) ?_
      rotate_left 1
      · first | (apply Or.inl; constructor; rfl; intro W hSw; obtain ⟨s1, s2, s5, s6, s11⟩ := (hSe W).1 hSw; go_simp; try (with_reducible rfl)) | (apply Or.inr; constructor; rfl; rfl)
      try simp only [Act.put, List.getElem_toArray, List.getElem_cons_succ, List.getElem_cons_zero, List.setIfInBounds_toArray, List.set_cons_zero, List.set_cons_succ]
      refine wpAnyH_take (i := 24) (v := ?_) rfl (by kernel_rfl) (by kernel_rfl) (by kernel_rfl) (fun _ _ _ h => h) ?_ (by assumption) ?_
      rotate_left 1
      · first | (apply Or.inl; constructor; rfl; intro W hSw; obtain ⟨s1, s2, s5, s6, s11⟩ := (hSe W).1 hSw; go_simp; try (with_reducible rfl)) | (apply Or.inr; constructor; rfl; rfl)
      try simp only [Act.put, List.getElem_toArray, List.getElem_cons_succ, List.getElem_cons_zero, List.setIfInBounds_toArray, List.set_cons_zero, List.set_cons_succ]
      refine wpAnyH_take (i := 25) (v := ?_) rfl (by kernel_rfl) (by kernel_rfl) (by kernel_rfl) (fun _ _ _ h => h) ?_ (by assumption) ?_
      rotate_left 1
      · first | (apply Or.inl; constructor; rfl; intro W hSw; obtain ⟨s1, s2, s5, s6, s11⟩ := (hSe W).1 hSw; go_simp; try (with_reducible rfl)) | (apply Or.inr; constructor; rfl; rfl)
      try simp only [Act.put, List.getElem_toArray, List.getElem_cons_succ, List.getElem_cons_zero, List.setIfInBounds_toArray, List.set_cons_zero, List.set_cons_succ]
      refine wpAnyH_take (i := 26) (v := ?_) rfl (by kernel_rfl) (by kernel_rfl) (by kernel_rfl) (fun _ _ _ h => h) ?_ (by assumption) ?_
      rotate_left 1
      · first | (apply Or.inl; constructor; rfl; intro W hSw; obtain ⟨s1, s2, s5, s6, s11⟩ := (hSe W).1 hSw; go_simp; try (with_reducible rfl)) | (apply Or.inr; constructor; rfl; rfl)
      try simp only [Act.put, List.getElem_toArray, List.getElem_cons_succ, List.getElem_cons_zero, List.setIfInBounds_toArray, List.set_cons_zero, List.set_cons_succ]
      refine wpAnyH_take (i := 27) (v := ?_) rfl (by kernel_rfl) (by kernel_rfl) (by kernel_rfl) (fun _ _ _ h => h) ?_ (by assumption) ?_
      rotate_left 1
      · first | (apply Or.inl; constructor; rfl; intro W hSw; obtain ⟨s1, s2, s5, s6, s11⟩ := (hSe W).1 hSw; go_simp; try (with_reducible rfl)) | (apply Or.inr; constructor; rfl; rfl)
      try simp only [Act.put, List.getElem_toArray, List.getElem_cons_succ, List.getElem_cons_zero, List.setIfInBounds_toArray, List.set_cons_zero, List.set_cons_succ]
      refine wpAnyH_take (i := 28) (v := ?_) rfl (by kernel_rfl) (by kernel_rfl) (by kernel_rfl) (fun _ _ _ h => h) ?_ (by assumption) ?_
      rotate_left 1
      · first | (apply Or.inl; constructor; rfl; intro W hSw; obtain ⟨s1, s2, s5, s6, s11⟩ := (hSe W).1 hSw; go_simp; try (with_reducible rfl)) | (apply Or.inr; constructor; rfl; rfl)
      try simp only [Act.put, List.getElem_toArray, List.getElem_cons_succ, List.getElem_cons_zero, List.setIfInBounds_toArray, List.set_cons_zero, List.set_cons_succ]
      refine wpAnyH_take (i := 29) (v := ?_) rfl (by kernel_rfl) (by kernel_rfl) (by kernel_rfl) (fun _ _ _ h => h) ?_ (by assumption) ?_
      rotate_left 1
      · first | (apply Or.inl; constructor; rfl; intro W hSw; obtain ⟨s1, s2, s5, s6, s11⟩ := (hSe W).1 hSw; go_simp; try (with_reducible rfl)) | (apply Or.inr; constructor; rfl; rfl)
      try simp only [Act.put, List.getElem_toArray, List.getElem_cons_succ, List.getElem_cons_zero, List.setIfInBounds_toArray, List.set_cons_zero, List.set_cons_succ]
      refine wpAnyH_take (i := 30) (v := ?_) rfl (by kernel_rfl) (by kernel_rfl) (by kernel_rfl) (fun _ _ _ h => h) ?_ (by assumption) ?_
      rotate_left 1
      · first | (apply Or.inl; constructor; rfl; intro W hSw; obtain ⟨s1, s2, s5, s6, s11⟩ := (hSe W).1 hSw; go_simp; try (with_reducible rfl)) | (apply Or.inr; constructor; rfl; rfl)
      try simp only [Act.put, List.getElem_toArray, List.getElem_cons_succ, List.getElem_cons_zero, List.setIfInBounds_toArray, List.set_cons_zero, List.set_cons_succ]
      refine wpAnyH_take (i := 31) (v := ?_) rfl (by kernel_rfl) (by kernel_rfl) (by kernel_rfl) (fun _ _ _ h => h) ?_ (by assumption) ?_
      rotate_left 1
      · first | (apply Or.inl; constructor; rfl; intro W hSw; obtain ⟨s1, s2, s5, s6, s11⟩ := (hSe W).1 hSw; go_simp; try (with_reducible rfl)) | (apply Or.inr; constructor; rfl; rfl)
      try simp only [Act.put, List.getElem_toArray, List.getElem_cons_succ, List.getElem_cons_zero, List.setIfInBounds_toArray, List.set_cons_zero, List.set_cons_succ]
      refine wpAnyH_done (by kernel_rfl) ?_ _
      go_wp2_with fail
      go_ret2
      exact ⟨v2, rfl, hv2, fun k hk => by have := ho2 k hk; simp at this; omega, HK1.out.drew.trans hk2 (by simp)⟩
end Go.Proofs.Ytkeffebcmajhmaa
