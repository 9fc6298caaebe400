/- The program's net: Close, Stop by contract. -/
import Derived.Test.YtkeffebcmajhmaaNet14
namespace Go.Proofs.Ytkeffebcmajhmaa
open Go.RowKit
set_option linter.unusedVariables false
/-- a connection's cells have changed, and perhaps the net's own; no row has grown. -/
theorem NAt.fix {c : Cfg} {w w' : World} {n i p : Nat} {F G : List Nat} {own : Nat → Nat} {ps : List Nat} {vc vq vi vo vt : Value} {N N' : NS} {d' : Cn} (h : NAt c w n F own ps vc vq N) (hp : ps[i]? = some p) (hN : N'.cs = N.cs.set i d') (hQ : N'.queue = N.queue) (hk : Keeps G w w') (hG : ∀ k ∈ G, k = n ∨ k = p)
    (hn : Blk w' n c.NT (c.nlay N' vc vq)) (hc : CAt c w' own i p d' vi vo vt) : NAt c w' n F own ps vc vq N' := by
  have h2 := hc.2.1
  have hnot : ∀ k, own k ≠ 1 → own k ≠ 4 * i + 4 → k ∉ G := fun k a b hx => by
    rcases hG k hx with rfl | rfl
    · exact a h.tn
    · exact b h2
  refine ⟨h.ftag, fun k e => Nat.lt_of_lt_of_le (h.flt k e) hk.size, h.tn, hn, ?_, h.oc, ?_, h.oq, ?_, ?_⟩
  · rw [hN, List.length_set]
    exact h.rc.keeps hk (fun k e => hnot k (by rw [h.oc k e]; omega) (by rw [h.oc k e]; omega))
  · rw [hQ]
    exact h.rq.keeps hk (fun k e => hnot k (by rw [h.oq k e]; omega) (by rw [h.oq k e]; omega))
  · rw [hN, List.length_set, h.len]
  · intro j q e hq he
    rw [hN] at he
    by_cases hj : j = i
    · subst hj
      rw [hp] at hq
      injection hq with hq
      subst hq
      have hlt : j < N.cs.length := by
        have := (List.getElem?_eq_some_iff.1 hp).1
        have := h.len
        omega
      rw [List.getElem?_set_self hlt] at he
      injection he with he
      subst he
      exact ⟨vi, vo, vt, hc⟩
    · rw [List.getElem?_set_ne (by omega)] at he
      obtain ⟨ui, uo, ut, hu⟩ := h.at_ j q e hq he
      exact ⟨ui, uo, ut, hu.keeps hk (fun k a b => hnot k (by omega) (by omega))⟩
theorem closeN_snoc (l : List Int) (c : Int) : ∀ N : NS, closeN N (l ++ [c]) = ((close1 (closeN N l).1 c).1, (closeN N l).2 + (close1 (closeN N l).1 c).2) := by
  induction l with
  | nil => intro N; simp [closeN]
  | cons a l ih =>
    intro N
    simp only [List.cons_append, closeN]
    rw [ih]
    simp only [Prod.mk.injEq, true_and]
    omega
theorem close_nil (cv : Value) (l : List Int) (w : World) (hr : CellsIn w [] cv (l.map (.int .i64))) (hl : l.length ≤ 1099511627776) :
    Calls Try.prog 49 #[.pointer none, cv] w fun e w' => e = .returned (.int .i64 0) ∧ Keeps [] w w' := by
  have HR := hid hr
  obtain ⟨A, c, rfl, h1, h2⟩ := hr.shape
  simp only [List.length_map] at h1 HR ⊢
  clear hr
  go_enter Try.func49, Try.ntmps49
  go_wp2_with fail
  go_loopw [5, 11] (fun many j wr => ∃ k : Nat, k ≤ l.length ∧ j = .int .i64 k ∧ many = .int .i64 0 ∧ Keeps [] w wr) (fun _ j _ => l.length - (intOf j).toNat)
  case atStart => exact ⟨0, Nat.zero_le _, rfl, rfl, Keeps.refl _ _⟩
  case round =>
    obtain ⟨k, hk, rfl, rfl, hkp⟩ := hrel
    by_cases hlt : k < l.length
    · obtain ⟨b, o, rfl, -, hc⟩ := HR.out.at_ (by simp; omega)
      have c0 := cell_keep hkp (by simp) (hc k (.int .i64 (l[k])) (by simp [hlt]))
      have hki : (k : Int) < l.length := by omega
      obtain ⟨x, hx⟩ : ∃ x, l[k] = x := ⟨_, rfl⟩
      rw [hx] at c0
      clear hc hx
      go_wp2_with (go_at_call 76; refine (nat_nil _ _).mono ?_; rintro e w1 ⟨rfl, hk1⟩)
      go_roundw
      case rel => exact ⟨k + 1, by omega, by go_num, rfl, hkp.trans hk1 (by simp)⟩
      case measure => simp [intOf] <;> omega
    · go_wp2_with fail
      go_ret
      exact ⟨rfl, hkp⟩
set_option maxHeartbeats 1000000 in
theorem close_any (n : Nat) (F : List Nat) (N : NS) (B : Int) (cv : Value) (l : List Int) (w : World) (h : NRep pc w n F N) (hN : OkN N B) (hr : CellsIn w F cv (l.map (.int .i64))) (hl : l.length ≤ 1099511627776) :
    Calls Try.prog 49 #[.pointer (some ⟨n, 0, none⟩), cv] w fun e w' => e = .returned (.int .i64 (closeN N l).2) ∧ NDone pc w n F (closeN N l).1 w' := by
  obtain ⟨own, ps, vc, vq, h⟩ := h
  have H := hid h
  have HOK := hid hN
  have HR := hid hr
  obtain ⟨A, c, rfl, h1, h2⟩ := hr.shape
  simp only [List.length_map] at h1 HR ⊢
  have hnF : n ∈ F := h.ftag n (by rw [h.tn]; omega)
  clear hr h hN
  go_enter Try.func49, Try.ntmps49
  go_wp2_with fail
  go_loopw [5, 11] (fun many j wr => ∃ k : Nat, k ≤ l.length ∧ j = .int .i64 k ∧ many = .int .i64 (closeN N (l.take k)).2 ∧ 0 ≤ (closeN N (l.take k)).2 ∧ (closeN N (l.take k)).2 ≤ k ∧ NAt pc wr n F own ps vc vq (closeN N (l.take k)).1 ∧ Keeps F w wr) (fun _ j _ => l.length - (intOf j).toNat)
  case atStart => exact ⟨0, Nat.zero_le _, rfl, rfl, by simp [closeN], by simp [closeN], by simpa [closeN] using H.out, Keeps.refl _ _⟩
  case round =>
    obtain ⟨k, hk, rfl, rfl, hm0, hm1, hS, hkp⟩ := hrel
    have HS := hid hS
    have HKP := hid hkp
    clear hS hkp
    by_cases hlt : k < l.length
    · obtain ⟨b, o, rfl, hbF, hc⟩ := HR.out.at_ (by simp; omega)
      have c0 := cell_keep HKP.out hbF (hc k (.int .i64 (l[k])) (by simp [hlt]))
      have hki : (k : Int) < l.length := by omega
      obtain ⟨x, hx⟩ : ∃ x, l[k] = x := ⟨_, rfl⟩
      have HNX : Hid (l.take (k + 1) = l.take k ++ [x]) := by
        rw [List.take_add_one, List.getElem?_eq_getElem hlt, hx]
        exact hid rfl
      rw [hx] at c0
      have hok : OkN (closeN N (l.take k)).1 B := okN_close _ HOK.out
      have HSN := hid (closeN_snoc (l.take k) x N)
      obtain ⟨NK, hNK⟩ : ∃ r, closeN N (l.take k) = r := ⟨_, rfl⟩
      rw [hNK] at HS HSN hm0 hm1 hok ⊢
      obtain ⟨Nk, mk⟩ := NK
      have HE := hid hNK
      simp only at HS HSN hm0 hm1 hok ⊢
      clear hc hx hNK
      rcases HS.out.which x with hxk | ⟨i, p, d, rfl, hp, hd⟩
      · have HX := hid hxk
        have HC1 : Hid (close1 Nk x = (Nk, 0)) := by
          unfold close1
          rw [cnAt_none hxk]
          exact hid rfl
        clear hxk
        go_wp2_with (go_at_call 76; refine (nat_out HS.out _ HX.out).mono ?_; rintro e w1 ⟨rfl, hk1⟩)
        go_roundw
        case rel => exact ⟨k + 1, by omega, by go_num, by rw [HNX.out, HSN.out, HC1.out]; simp, by rw [HNX.out, HSN.out, HC1.out]; simp; omega, by rw [HNX.out, HSN.out, HC1.out]; simp; omega, by rw [HNX.out, HSN.out, HC1.out]; exact HS.out.keeps hk1 (by simp), HKP.out.trans hk1 (by simp)⟩
        case measure => simp [intOf] <;> omega
      · obtain ⟨vi, vo, vt, hcat⟩ := HS.out.at_ i p d hp hd
        have c1 := hcat.1.cell 1
        have f1 := hcat.1.frozen 1
        have c6 := HS.out.blk.cell 6
        have f6 := HS.out.blk.frozen 6
        simp [pc] at c1 c6
        have hpn : p ≠ n := fun e => by
          have a := HS.out.tn
          have b := hcat.2.1
          rw [← e, b] at a
          omega
        have hnp : n ≠ p := Ne.symm hpn
        have HP := hid hp
        have HD := hid hd
        have HC := hid hcat
        have hpF : p ∈ F := HS.out.ftag p (by rw [hcat.2.1]; omega)
        obtain ⟨bo, hbo⟩ : ∃ b, d.opn = b := ⟨_, rfl⟩
        rw [hbo] at c1
        have hop : 0 ≤ Nk.nopen ∧ Nk.nopen ≤ 65536 := by
          have h1 := hok.op
          have h2 := List.countP_le_length (p := fun d : Cn => d.opn) (l := Nk.cs)
          have h3 := hok.cl
          omega
        have hw1 : IntKind.i64.wrap (Nk.nopen - 1) = Nk.nopen - 1 := IntWalk.i64_in _ (by omega)
        cases bo with
        | false =>
          have HC1 : Hid (close1 Nk i = (Nk, 0)) := by
            unfold close1
            rw [cnAt_some hd]
            simp only
            rw [if_neg (by rw [hbo]; simp)]
            exact hid rfl
          clear hp hd hcat hbo hok hop
          go_wp2_with (go_at_call 76; refine (nat_in HS.out i p HP.out).mono ?_; rintro e w1 ⟨rfl, hk1⟩; have e1 := cell_keep hk1 (by simp) c1)
          go_roundw
          case rel => exact ⟨k + 1, by omega, by go_num, by rw [HNX.out, HSN.out, HC1.out]; simp, by rw [HNX.out, HSN.out, HC1.out]; simp; omega, by rw [HNX.out, HSN.out, HC1.out]; simp; omega, by rw [HNX.out, HSN.out, HC1.out]; exact HS.out.keeps hk1 (by simp), HKP.out.trans hk1 (by simp)⟩
          case measure => simp [intOf] <;> omega
        | true =>
          have HC1 : Hid (close1 Nk i = ({ Nk with cs := Nk.cs.set i { d with opn := false }, nopen := Nk.nopen - 1 }, 1)) := by
            unfold close1
            rw [cnAt_some hd]
            simp only
            rw [if_pos hbo]
            exact hid rfl
          clear hp hd hcat hbo hok
          go_wp2_with (go_at_call 76; refine (nat_in HS.out i p HP.out).mono ?_; rintro e w1 ⟨rfl, hk1⟩; have e1 := cell_keep hk1 (by simp) c1; have e6 := cell_keep hk1 (by simp) c6; have g1 := (HC.out.1.keeps hk1 (by simp)).frozen 1; have g6 := (HS.out.blk.keeps hk1 (by simp)).frozen 6; have HK1 := hid hk1; clear hk1)
          go_roundw
          case rel =>
            have hkk : Keeps [n, p] w1 ((w1.setCell ⟨p, 1, none⟩ (.bool false)).setCell ⟨n, 6, none⟩ (.int .i64 (Nk.nopen - 1))) := ((Keeps.refl [n, p] w1).setCell (p := ⟨p, 1, none⟩) (.inl (by simp)) _).setCell (p := ⟨n, 6, none⟩) (.inl (by simp)) _
            have hS1 := HS.out.keeps HK1.out (by simp)
            have hC1' := HC.out.keeps HK1.out (by simp)
            refine ⟨k + 1, by omega, by go_num, by rw [HNX.out, HSN.out, HC1.out], by rw [HNX.out, HSN.out, HC1.out]; simp; omega, by rw [HNX.out, HSN.out, HC1.out]; simp; omega, ?_, (HKP.out.trans HK1.out (by simp)).trans hkk (fun g hg => .inl (by simp at hg; rcases hg with rfl | rfl <;> assumption))⟩
            rw [HNX.out, HSN.out, HC1.out]
            refine hS1.fix (d' := { d with opn := false }) (vi := vi) (vo := vo) (vt := vt) HP.out rfl rfl hkk (by simp) ?_ ⟨?_, hC1'.2.1, ?_, ?_, ?_⟩
            · simpa [pc] using (hS1.blk.far (p := ⟨p, 1, none⟩) hnp (.bool false)).set_ 6 (.int .i64 (Nk.nopen - 1))
            · simpa [pc] using (hC1'.1.set_ 1 (.bool false)).far (p := ⟨n, 6, none⟩) hpn (.int .i64 (Nk.nopen - 1))
            all_goals
              have a := hC1'.2.1
              have b := hS1.tn
              refine BRow.keeps (K := [n, p]) ?_ hkk (fun k hk hx => by simp at hx; rcases hx with rfl | rfl <;> omega)
            · exact hC1'.2.2.1
            · exact hC1'.2.2.2.1
            · exact hC1'.2.2.2.2
          case measure => simp [intOf] <;> omega
    · have hkl : k = l.length := by omega
      subst hkl
      rw [List.take_length] at HS ⊢
      go_wp2_with fail
      go_ret
      exact ⟨rfl, ⟨F, ⟨own, ps, vc, vq, HS.out⟩, fun k hk => .inl hk⟩, HKP.out⟩
end Go.Proofs.Ytkeffebcmajhmaa
