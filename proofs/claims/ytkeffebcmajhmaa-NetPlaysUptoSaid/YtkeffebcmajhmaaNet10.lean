/- The program's net: Accept, State by contract. -/
import Derived.Test.YtkeffebcmajhmaaNet9
namespace Go.Proofs.Ytkeffebcmajhmaa
open Go.RowKit
set_option linter.unusedVariables false
theorem accept_nil (w : World) : Calls Try.prog 36 #[.pointer none] w fun e w' => e = .returned (.tuple #[.int .i64 0, .int .i64 0, .int .i64 1]) ∧ Keeps [] w w' := by
  go_enter Try.func36, Try.ntmps36
  go_wp2
  go_ret3
  exact ⟨rfl, Keeps.refl _ _⟩
theorem accept_done {w w' : World} {n p q : Nat} {F : List Nat} {own : Nat → Nat} {ps : List Nat} {vc vq vi vo vt : Value} {N : NS} {d : Cn} {rest : List Nat} {A : Option Addr} {l c : Nat} (h : NAt pc w n F own ps vc vq N) (hvq : vq = .slice A l c) (hq : N.queue = q :: rest) (hp : ps[q]? = some p) (hd : N.cs[q]? = some d) (hc : CAt pc w own q p d vi vo vt)
    (hw : w' = (((((w.setCell ⟨n, 2, none⟩ (.slice (cutA A 1 c 1) (l - 1) (c - 1))).setCell ⟨p, 0, none⟩ (.bool false)).setCell ⟨p, 1, none⟩ (.bool true)).setCell ⟨p, 6, none⟩ (.bool true)).setCell ⟨n, 6, none⟩ (.int .i64 (N.nopen + 1)))) :
    NDone pc w n F { N with queue := rest, cs := N.cs.set q { d with waits := false, opn := true, taken := true }, nopen := N.nopen + 1 } w' := by
  obtain ⟨h1, h2, h3, h4, h5⟩ := hc
  have hnp : n ≠ p := fun e => by
    have := h.tn
    rw [e, h2] at this
    omega
  have hpF : p ∈ F := h.ftag p (by omega)
  have hnF : n ∈ F := h.ftag n (by rw [h.tn]; omega)
  have hk : Keeps [n, p] w w' := by
    rw [hw]
    exact ((((((Keeps.refl [n, p] w).setCell (p := ⟨n, 2, none⟩) (.inl (by simp)) _).setCell (p := ⟨p, 0, none⟩) (.inl (by simp)) _).setCell (p := ⟨p, 1, none⟩) (.inl (by simp)) _).setCell (p := ⟨p, 6, none⟩) (.inl (by simp)) _).setCell (p := ⟨n, 6, none⟩) (.inl (by simp)) _)
  have hll : l = N.queue.length := by
    obtain ⟨A', c', hv, -⟩ := h.rq.form
    rw [hvq] at hv
    injection hv
  have hrq := h.rq
  rw [hvq, ← hll] at hrq
  have hcut := hrq.cut (lo := 1) (by rw [hll, hq]; simp)
  have oq : ∀ k, (Value.slice (cutA A 1 c 1) (l - 1) (c - 1)).ownBlock = some k → k < w.heap.size ∧ own k = 3 := fun k e => by
    rw [ownBlock_cut] at e
    have e2 : vq.ownBlock = some k := by
      rw [hvq]
      cases A with
      | none => simp [Value.ownBlock] at e
      | some a => simpa [Value.ownBlock] using e
    exact ⟨h.rq.lt k e2, h.oq k e2⟩
  have hnb := h.blk
  refine ⟨h.put (i := q) (p := p) (G := [n, p]) (d' := { d with waits := false, opn := true, taken := true }) (vi := vi) (vo := vo) (vt := vt) (vq' := .slice (cutA A 1 c 1) (l - 1) (c - 1)) hp rfl hk ?_ h2 h1.lt ?_ ?_ ?_ ?_ ?_ ?_ ?_ ?_ ?_ ?_ ?_, hk.mono (by simp [hpF, hnF])⟩
  · intro k hk' _
    simp at hk'
    rcases hk' with rfl | rfl
    · exact .inl h.tn
    · omega
  · rw [hw]
    simpa [pc] using (((((h.blk.set_ 2 (.slice (cutA A 1 c 1) (l - 1) (c - 1))).far (p := ⟨p, 0, none⟩) hnp (.bool false)).far (p := ⟨p, 1, none⟩) hnp (.bool true)).far (p := ⟨p, 6, none⟩) hnp (.bool true)).set_ 6 (.int .i64 (N.nopen + 1)))
  · have hr : l - 1 = rest.length := by rw [hll, hq]; simp
    have hx : (natsV N.queue).drop 1 = natsV rest := by rw [hq]; simp [natsV]
    simp only [Nat.mul_one] at hcut
    rw [hx, hr] at hcut
    rw [hr]
    refine hcut.keeps hk (fun k e hx => ?_)
    rw [← hr] at e
    have := (oq k e).2
    simp at hx
    rcases hx with rfl | rfl
    · rw [h.tn] at this
      omega
    · omega
  · rw [hw]
    simpa [pc] using (((((h1.far (p := ⟨n, 2, none⟩) (Ne.symm hnp) (.slice (cutA A 1 c 1) (l - 1) (c - 1))).set_ 0 (.bool false)).set_ 1 (.bool true)).set_ 6 (.bool true)).far (p := ⟨n, 6, none⟩) (Ne.symm hnp) (.int .i64 (N.nopen + 1)))
  · exact h3.1.keeps hk (fun k e hx => by
      have := h3.2 k e
      have := h.tn
      simp at hx
      rcases hx with rfl | rfl <;> omega)
  · exact h4.1.keeps hk (fun k e hx => by
      have := h4.2 k e
      have := h.tn
      simp at hx
      rcases hx with rfl | rfl <;> omega)
  · exact h5.1.keeps hk (fun k e hx => by
      have := h5.2 k e
      have := h.tn
      simp at hx
      rcases hx with rfl | rfl <;> omega)
  · exact fun k e => .inl ⟨h3.1.lt k e, h3.2 k e⟩
  · exact fun k e => .inl ⟨h4.1.lt k e, h4.2 k e⟩
  · exact fun k e => .inl ⟨h5.1.lt k e, h5.2 k e⟩
  · exact fun k e => .inl (oq k e)
  · intro k hge
    have a := fun e => h4.1.lt k e
    have b := fun e => h5.1.lt k e
    have c := fun e => h3.1.lt k e
    refine ⟨fun e => ?_, fun e => ?_, fun e => ?_⟩
    · have := c e
      omega
    · have := a e
      omega
    · have := b e
      omega
set_option maxRecDepth 100000 in
set_option maxHeartbeats 1000000 in
theorem accept_any (n : Nat) (F : List Nat) (N : NS) (B : Int) (w : World) (h : NRep pc w n F N) (hN : OkN N B) (hB : B ≤ 1099511627776) :
    Calls Try.prog 36 #[.pointer (some ⟨n, 0, none⟩)] w fun e w' => e = .returned (.tuple #[.int .i64 (acceptN N).2.1, .int .i64 (acceptN N).2.2.1, .int .i64 (acceptN N).2.2.2]) ∧ NDone pc w n F (acceptN N).1 w' := by
  have hR := hid h
  obtain ⟨own, ps, vc, vq, h⟩ := h
  have H := hid h
  obtain ⟨A, cap, hvq, -, hcm, -⟩ := h.rq.form
  have c2 := h.blk.cell 2
  have c3 := h.blk.cell 3
  have c4 := h.blk.cell 4
  simp [pc] at c2 c3 c4
  have hf0 := hN.f0
  have hf1 := hN.f1
  have hnF : n ∈ F := hR.out.mem
  obtain ⟨st, hst⟩ : ∃ st, N.stopped = st := ⟨_, rfl⟩
  rw [hst] at c3
  unfold acceptN
  rw [hvq] at c2
  cases st with
  | true =>
    rw [if_pos hst]
    clear h hN hst hvq
    simp only
    go_enter Try.func36, Try.ntmps36
    go_wp2
    go_ret3
    exact ⟨rfl, NDone.same hR.out (Keeps.refl _ _)⟩
  | false =>
    rw [if_neg (by rw [hst]; simp)]
    obtain ⟨Q, hQ⟩ : ∃ Q, N.queue = Q := ⟨_, rfl⟩
    rw [hQ]
    cases Q with
    | nil =>
      rw [hQ] at c2
      simp only [List.length_nil] at c2
      clear h hN hst hvq hQ
      simp only
      go_enter Try.func36, Try.ntmps36
      go_wp2
      go_ret3
      exact ⟨rfl, NDone.same hR.out (Keeps.refl _ _)⟩
    | cons q rest =>
      rw [hQ] at c2
      have hl0 : ((((q :: rest).length : Nat) : Int) == 0) = false := by simp; omega
      obtain ⟨l, hl⟩ : ∃ l, (q :: rest).length = l := ⟨_, rfl⟩
      have hl1 : 0 < l := by rw [← hl]; simp
      rw [hl] at c2 hl0
      simp only
      by_cases hf : 0 < N.fails
      · rw [if_pos hf]
        have hw1 : IntKind.i64.wrap (N.fails - 1) = N.fails - 1 := IntWalk.i64_in _ (by omega)
        have f4 := h.blk.frozen 4
        have HQ := hid hQ
        clear h hN hst hvq hQ hl
        simp only
        go_enter Try.func36, Try.ntmps36
        go_wp2
        go_ret3
        have hk : Keeps [n] w (w.setCell ⟨n, 4, none⟩ (.int .i64 (N.fails - 1))) := (Keeps.refl [n] w).setCell (p := ⟨n, 4, none⟩) (.inl (by simp)) _
        have hrow := H.out.rq.keeps hk (fun k e hx => by
          simp at hx
          subst hx
          have := H.out.oq k e
          rw [H.out.tn] at this
          omega)
        rw [HQ.out] at hrow
        refine ⟨rfl, H.out.head (G := [n]) (vq' := vq) rfl hk ?_ ?_ hrow (fun k e => .inl ⟨H.out.rq.lt k e, H.out.oq k e⟩), hk.mono (by simp; exact hnF)⟩
        · intro k hk _
          simp at hk
          subst hk
          exact .inl H.out.tn
        · simpa [pc] using H.out.blk.set_ 4 (.int .i64 (N.fails - 1))
      · rw [if_neg hf]
        obtain ⟨d, hd, -, -⟩ := hN.qw q (by rw [hQ]; simp)
        rw [hd]
        simp only
        obtain ⟨p, b, off, ccap, hp, rfl, hqk, hle, hccm, hcb, hbn, vi, vo, vt, hc⟩ := h.conn hd
        have hnp : n ≠ p := fun e => by
          have a := h.tn
          have b := hc.2.1
          rw [e, b] at a
          omega
        have hpn : p ≠ n := Ne.symm hnp
        have c1 := h.blk.cell 1
        have c6 := h.blk.cell 6
        have f2 := h.blk.frozen 2
        have f6 := h.blk.frozen 6
        have d0 := hc.1.cell 0
        have d1 := hc.1.cell 1
        have d3 := hc.1.cell 3
        have d6 := hc.1.cell 6
        have g0 := hc.1.frozen 0
        have g1 := hc.1.frozen 1
        have g6 := hc.1.frozen 6
        simp [pc] at c1 c6 d0 d1 d3 d6
        have hqi : (q : Int) < N.cs.length := by omega
        have hop : 0 ≤ N.nopen ∧ N.nopen ≤ 65536 := by
          have h1 := hN.op
          have h2 := List.countP_le_length (p := fun d : Cn => d.opn) (l := N.cs)
          have h3 := hN.cl
          omega
        have hw1 : IntKind.i64.wrap (N.nopen + 1) = N.nopen + 1 := IntWalk.i64_in _ (by omega)
        obtain ⟨j1, hj1, hx0, hx1, hx2⟩ := info_parts int_info
        obtain ⟨g, qo, qc, hgq, hqle, -, hqcell, -, -⟩ := h.rq.open_ (by rw [hQ, hl]; omega)
        have hA : A = some ⟨g, qo, none⟩ ∧ qc = cap := by
          rw [hvq] at hgq
          injection hgq with a _ c
          exact ⟨a, c.symm⟩
        obtain ⟨rfl, rfl⟩ := hA
        have q0 := hqcell 0 (.int .i64 q) (by rw [hQ]; simp [natsV])
        rw [Nat.add_zero] at q0
        have hsl := fun wx => run_cut_lo (P := Try.prog) wx 22 3 j1 1 Try.underlying22 hj1 hx1 (some ⟨g, qo, none⟩) l qc 1 (1 : Int) rfl .i64 (by omega)
        have hl1i : (0 : Int) < l := by omega
        have hll : l ≤ qc := by rw [← hl, ← hQ]; exact hqle
        have HVQ : Hid (vq = .slice (some ⟨g, qo, none⟩) l qc) := by
          rw [hQ, hl] at hvq
          exact hid hvq
        have HQ := hid hQ
        have HP := hid hp
        have HD := hid hd
        have HC := hid hc
        have hfn : ¬ 0 < N.fails := hf
        unfold maxLen at hcm
        clear h hN hst hvq hQ hl hp hd hc hgq hqcell hf
        go_enter Try.func36, Try.ntmps36
        go_wp2_with fail
        go_quiet (fail)
        go_wp2_with fail
        go_ret3
        refine ⟨rfl, ?_⟩
        have hdone := accept_done H.out HVQ.out HQ.out HP.out HD.out HC.out rfl
        exact hdone.post_drewN _
end Go.Proofs.Ytkeffebcmajhmaa
