/- The program's net: Accept, State by contract. -/
import Derived.Test.YtkeffebcmajhmaaPq07
namespace Go.Proofs.Ytkeffebcmajhmaa
open Go.RowKit
set_option linter.unusedVariables false
theorem accept_nil (w : World) : Calls Try.prog 36 #[.pointer none] w fun e w' => e = .returned (.tuple #[.int .i64 0, .int .i64 0, .int .i64 1]) ∧ Keeps [] w w' := by
  go_enter Try.func36, Try.ntmps36
  go_wp2
  go_ret3
  exact ⟨rfl, Keeps.refl _ _⟩
theorem accept_done {w w' : World} {n p q : Nat} {F : List Nat} {own : Nat → Nat} {ps : List Nat} {vc vq vi vo vt : Value} {N : NS} {d : Cn} {rest : List Nat} {A : Option Addr} {l c : Nat} (h : NAt pc w n F own ps vc vq N) (hvq : vq = .slice A l c) (hq : N.queue = q :: rest) (hp : ps[q]? = some p) (hd : N.cs[q]? = some d) (hc : CAt pc w own q p d vi vo vt)
    (hw : w' = (((((w.setCell ⟨n, 2, none⟩ (.slice (cutA A 1 c 1) (l - 1) (c - 1))).setCell ⟨p, 0, none⟩ (.bool false)).setCell ⟨p, 1, none⟩ (.bool true)).setCell ⟨p, 6, none⟩ (.bool true)).setCell ⟨n, 6, none⟩ (.int .i64 (N.nopen + 1)))) :
    NDone pc w n F { N with queue := rest, cs := N.cs.set q { d with waits := false, opn := true, taken := true }, nopen := N.nopen + 1 } w' := by
  obtain ⟨h1, h2, h3, h4, h5⟩ := hc
  have hnp : n ≠ p := fun e => by
    have := h.tn
    rw [e, h2] at this
    omega
  have hpF : p ∈ F := h.ftag p (by omega)
  have hnF : n ∈ F := h.ftag n (by rw [h.tn]; omega)
  have hk : Keeps [n, p] w w' := by
    rw [hw]
    exact ((((((Keeps.refl [n, p] w).setCell (p := ⟨n, 2, none⟩) (.inl (by simp)) _).setCell (p := ⟨p, 0, none⟩) (.inl (by simp)) _).setCell (p := ⟨p, 1, none⟩) (.inl (by simp)) _).setCell (p := ⟨p, 6, none⟩) (.inl (by simp)) _).setCell (p := ⟨n, 6, none⟩) (.inl (by simp)) _)
  have hll : l = N.queue.length := by
    obtain ⟨A', c', hv, -⟩ := h.rq.form
    rw [hvq] at hv
    injection hv
  have hrq := h.rq
  rw [hvq, ← hll] at hrq
  have hcut := hrq.cut (lo := 1) (by rw [hll, hq]; simp)
  have oq : ∀ k, (Value.slice (cutA A 1 c 1) (l - 1) (c - 1)).ownBlock = some k → k < w.heap.size ∧ own k = 3 := fun k e => by
    rw [ownBlock_cut] at e
    have e2 : vq.ownBlock = some k := by
      rw [hvq]
      cases A with
      | none => simp [Value.ownBlock] at e
      | some a => simpa [Value.ownBlock] using e
    exact ⟨h.rq.lt k e2, h.oq k e2⟩
  have hnb := h.blk
  refine ⟨h.put (i := q) (p := p) (G := [n, p]) (d' := { d with waits := false, opn := true, taken := true }) (vi := vi) (vo := vo) (vt := vt) (vq' := .slice (cutA A 1 c 1) (l - 1) (c - 1)) hp rfl hk ?_ h2 h1.lt ?_ ?_ ?_ ?_ ?_ ?_ ?_ ?_ ?_ ?_ ?_, hk.mono (by simp [hpF, hnF])⟩
  · intro k hk' _
    simp at hk'
    rcases hk' with rfl | rfl
    · exact .inl h.tn
    · omega
  · rw [hw]
    simpa [pc] using (((((h.blk.set_ 2 (.slice (cutA A 1 c 1) (l - 1) (c - 1))).far (p := ⟨p, 0, none⟩) hnp (.bool false)).far (p := ⟨p, 1, none⟩) hnp (.bool true)).far (p := ⟨p, 6, none⟩) hnp (.bool true)).set_ 6 (.int .i64 (N.nopen + 1)))
  · have hr : l - 1 = rest.length := by rw [hll, hq]; simp
    have hx : (natsV N.queue).drop 1 = natsV rest := by rw [hq]; simp [natsV]
    simp only [Nat.mul_one] at hcut
    rw [hx, hr] at hcut
    rw [hr]
    refine hcut.keeps hk (fun k e hx => ?_)
    rw [← hr] at e
    have := (oq k e).2
    simp at hx
    rcases hx with rfl | rfl
    · rw [h.tn] at this
      omega
    · omega
  · rw [hw]
    simpa [pc] using (((((h1.far (p := ⟨n, 2, none⟩) (Ne.symm hnp) (.slice (cutA A 1 c 1) (l - 1) (c - 1))).set_ 0 (.bool false)).set_ 1 (.bool true)).set_ 6 (.bool true)).far (p := ⟨n, 6, none⟩) (Ne.symm hnp) (.int .i64 (N.nopen + 1)))
  · exact h3.1.keeps hk (fun k e hx => by
      have := h3.2 k e
      have := h.tn
      simp at hx
      rcases hx with rfl | rfl <;> omega)
  · exact h4.1.keeps hk (fun k e hx => by
      have := h4.2 k e
      have := h.tn
      simp at hx
      rcases hx with rfl | rfl <;> omega)
  · exact h5.1.keeps hk (fun k e hx => by
      have := h5.2 k e
      have := h.tn
      simp at hx
      rcases hx with rfl | rfl <;> omega)
  · exact fun k e => .inl ⟨h3.1.lt k e, h3.2 k e⟩
  · exact fun k e => .inl ⟨h4.1.lt k e, h4.2 k e⟩
  · exact fun k e => .inl ⟨h5.1.lt k e, h5.2 k e⟩
  · exact fun k e => .inl (oq k e)
  · intro k hge
    have a := fun e => h4.1.lt k e
    have b := fun e => h5.1.lt k e
    have c := fun e => h3.1.lt k e
    refine ⟨fun e => ?_, fun e => ?_, fun e => ?_⟩
    · have := c e
      omega
    · have := a e
      omega
    · have := b e
      omega
set_option maxRecDepth 100000 in
set_option maxHeartbeats 1000000 in
theorem accept_any (n : Nat) (F : List Nat) (N : NS) (B : Int) (w : World) (h : NRep pc w n F N) (hN : OkN N B) (hB : B ≤ 1099511627776) :
    Calls Try.prog 36 #[.pointer (some ⟨n, 0, none⟩)] w fun e w' => e = .returned (.tuple #[.int .i64 (acceptN N).2.1, .int .i64 (acceptN N).2.2.1, .int .i64 (acceptN N).2.2.2]) ∧ NDone pc w n F (acceptN N).1 w' := by
  have hR := hid h
  obtain ⟨own, ps, vc, vq, h⟩ := h
  have H := hid h
  obtain ⟨A, cap, hvq, -, hcm, -⟩ := h.rq.form
  have c2 := h.blk.cell 2
  have c3 := h.blk.cell 3
  have c4 := h.blk.cell 4
  simp [pc] at c2 c3 c4
  have hf0 := hN.f0
  have hf1 := hN.f1
  have hnF : n ∈ F := hR.out.mem
  obtain ⟨st, hst⟩ : ∃ st, N.stopped = st := ⟨_, rfl⟩
  rw [hst] at c3
  unfold acceptN
  rw [hvq] at c2
  cases st with
  | true =>
    rw [if_pos hst]
    clear h hN hst hvq
    simp only
    go_enter Try.func36, Try.ntmps36
    go_wp2
    go_ret3
    exact ⟨rfl, NDone.same hR.out (Keeps.refl _ _)⟩
  | false =>
    rw [if_neg (by rw [hst]; simp)]
    obtain ⟨Q, hQ⟩ : ∃ Q, N.queue = Q := ⟨_, rfl⟩
    rw [hQ]
    cases Q with
    | nil =>
      rw [hQ] at c2
      simp only [List.length_nil] at c2
      clear h hN hst hvq hQ
      simp only
      go_enter Try.func36, Try.ntmps36
      go_wp2
      go_ret3
      exact ⟨rfl, NDone.same hR.out (Keeps.refl _ _)⟩
    | cons q rest =>
      rw [hQ] at c2
      have hl0 : ((((q :: rest).length : Nat) : Int) == 0) = false := by simp; omega
      obtain ⟨l, hl⟩ : ∃ l, (q :: rest).length = l := ⟨_, rfl⟩
      have hl1 : 0 < l := by rw [← hl]; simp
      rw [hl] at c2 hl0
      simp only
      by_cases hf : 0 < N.fails
      · rw [if_pos hf]
        have hw1 : IntKind.i64.wrap (N.fails - 1) = N.fails - 1 := IntWalk.i64_in _ (by omega)
        have f4 := h.blk.frozen 4
        have HQ := hid hQ
        clear h hN hst hvq hQ hl
        simp only
        go_enter Try.func36, Try.ntmps36
        go_wp2
        go_ret3
        have hk : Keeps [n] w (w.setCell ⟨n, 4, none⟩ (.int .i64 (N.fails - 1))) := (Keeps.refl [n] w).setCell (p := ⟨n, 4, none⟩) (.inl (by simp)) _
        have hrow := H.out.rq.keeps hk (fun k e hx => by
          simp at hx
          subst hx
          have := H.out.oq k e
          rw [H.out.tn] at this
          omega)
        rw [HQ.out] at hrow
        refine ⟨rfl, H.out.head (G := [n]) (vq' := vq) rfl hk ?_ ?_ hrow (fun k e => .inl ⟨H.out.rq.lt k e, H.out.oq k e⟩), hk.mono (by simp; exact hnF)⟩
        · intro k hk _
          simp at hk
          subst hk
          exact .inl H.out.tn
        · simpa [pc] using H.out.blk.set_ 4 (.int .i64 (N.fails - 1))
      · rw [if_neg hf]
        obtain ⟨d, hd, -, -⟩ := hN.qw q (by rw [hQ]; simp)
        rw [hd]
        simp only
        obtain ⟨p, b, off, ccap, hp, rfl, hqk, hle, hccm, hcb, hbn, vi, vo, vt, hc⟩ := h.conn hd
        have hnp : n ≠ p := fun e => by
          have a := h.tn
          have b := hc.2.1
          rw [e, b] at a
          omega
        have hpn : p ≠ n := Ne.symm hnp
        have c1 := h.blk.cell 1
        have c6 := h.blk.cell 6
        have f2 := h.blk.frozen 2
        have f6 := h.blk.frozen 6
        have d0 := hc.1.cell 0
        have d1 := hc.1.cell 1
        have d3 := hc.1.cell 3
        have d6 := hc.1.cell 6
        have g0 := hc.1.frozen 0
        have g1 := hc.1.frozen 1
        have g6 := hc.1.frozen 6
        simp [pc] at c1 c6 d0 d1 d3 d6
        have hqi : (q : Int) < N.cs.length := by omega
        have hop : 0 ≤ N.nopen ∧ N.nopen ≤ 65536 := by
          have h1 := hN.op
          have h2 := List.countP_le_length (p := fun d : Cn => d.opn) (l := N.cs)
          have h3 := hN.cl
          omega
        have hw1 : IntKind.i64.wrap (N.nopen + 1) = N.nopen + 1 := IntWalk.i64_in _ (by omega)
        obtain ⟨j1, hj1, hx0, hx1, hx2⟩ := info_parts int_info
        obtain ⟨g, qo, qc, hgq, hqle, -, hqcell, -, -⟩ := h.rq.open_ (by rw [hQ, hl]; omega)
        have hA : A = some ⟨g, qo, none⟩ ∧ qc = cap := by
          rw [hvq] at hgq
          injection hgq with a _ c
          exact ⟨a, c.symm⟩
        obtain ⟨rfl, rfl⟩ := hA
        have q0 := hqcell 0 (.int .i64 q) (by rw [hQ]; simp [natsV])
        rw [Nat.add_zero] at q0
        have hsl := fun wx => run_cut_lo (P := Try.prog) wx 22 3 j1 1 Try.underlying22 hj1 hx1 (some ⟨g, qo, none⟩) l qc 1 (1 : Int) rfl .i64 (by omega)
        have hl1i : (0 : Int) < l := by omega
        have hll : l ≤ qc := by rw [← hl, ← hQ]; exact hqle
        have HVQ : Hid (vq = .slice (some ⟨g, qo, none⟩) l qc) := by
          rw [hQ, hl] at hvq
          exact hid hvq
        have HQ := hid hQ
        have HP := hid hp
        have HD := hid hd
        have HC := hid hc
        have hfn : ¬ 0 < N.fails := hf
        unfold maxLen at hcm
        clear h hN hst hvq hQ hl hp hd hc hgq hqcell hf
        go_enter Try.func36, Try.ntmps36
        go_wp2_with fail
        go_quiet (fail)
        go_wp2_with fail
        go_ret3
        refine ⟨rfl, ?_⟩
        have hdone := accept_done H.out HVQ.out HQ.out HP.out HD.out HC.out rfl
        exact hdone.post_drewN _
end Go.Proofs.Ytkeffebcmajhmaa
/- The program's net: Send by contract. -/
namespace Go.Proofs.Ytkeffebcmajhmaa
open Go.RowKit
set_option linter.unusedVariables false
theorem send_nil (k : Int) (pv : Value) (w : World) : Calls Try.prog 39 #[.pointer none, .int .i64 k, pv] w fun e w' => e = .returned (.tuple #[.int .i64 0, .int .i64 1]) ∧ Keeps [] w w' := by
  go_enter Try.func39, Try.ntmps39
  go_wp2_with (go_at_call 73; refine (theirs_nil _ _).mono ?_; rintro e w1 ⟨rfl, hk⟩)
  go_ret2
  exact ⟨rfl, hk⟩
/-- rows of bytes that were handed in. -/
def RowsIn (w : World) (F : List Nat) (v : Value) (rows : List (Value × List Int)) : Prop := CellsIn w F v (rows.map (·.1)) ∧ ∀ r ∈ rows, CellsIn w F r.1 (bytesV r.2)
theorem RowsIn.keeps {w w' : World} {F G : List Nat} {v : Value} {rows : List (Value × List Int)} (h : RowsIn w F v rows) (hk : Keeps G w w') (hG : ∀ x ∈ G, x ∈ F ∨ w.heap.size ≤ x) : RowsIn w' F v rows :=
  ⟨h.1.keeps hk hG, fun r hr => (h.2 r hr).keeps hk hG⟩
/-- what has been poured in behind so many rows. -/
def poured (l : List Int) (rows : List (List Int)) : List Int := (l ++ rows.flatten).take 1024
theorem poured_nil (l : List Int) (h : l.length ≤ 1024) : poured l [] = l := by simp [poured, List.take_of_length_le h]
theorem poured_len (l : List Int) (rows : List (List Int)) : (poured l rows).length ≤ 1024 := by simp [poured]; omega
theorem poured_ge (l : List Int) (rows : List (List Int)) (h : l.length ≤ 1024) : l.length ≤ (poured l rows).length := by simp [poured]; omega
theorem poured_snoc (l : List Int) (rows : List (List Int)) (r : List Int) : poured l (rows ++ [r]) = poured l rows ++ r.take (min r.length (1024 - (poured l rows).length)) := by
  unfold poured
  rw [List.flatten_append, List.flatten_singleton, ← List.append_assoc]
  obtain ⟨x, hx⟩ : ∃ x, l ++ rows.flatten = x := ⟨_, rfl⟩
  rw [hx]
  rw [List.take_append, List.length_take]
  have key : r.take (1024 - x.length) = r.take (min r.length (1024 - min 1024 x.length)) := by
    by_cases h : x.length ≤ 1024
    · rw [Nat.min_eq_right h]
      by_cases h2 : r.length ≤ 1024 - x.length
      · rw [Nat.min_eq_left h2, List.take_of_length_le h2, List.take_of_length_le (Nat.le_refl _)]
      · rw [Nat.min_eq_right (by omega)]
    · have a : 1024 - x.length = 0 := by omega
      have b : min r.length (1024 - min 1024 x.length) = 0 := by omega
      rw [a, b]
  rw [key]
/-- a connection in the midst of a Send. -/
def SendSt (w0 wr : World) (p : Nat) (d : Cn) (vi vo vt vi' : Value) (cur : List Int) : Prop :=
  Blk wr p pc.T (pc.lay { d with inn := cur } vi' vo vt) ∧ Row wr 5 1 vi' cur.length (bytesV cur) ∧ (∀ k, vi'.ownBlock = some k → vi.ownBlock = some k ∨ w0.heap.size ≤ k) ∧ Keeps (p :: vi.ownBlock.toList) w0 wr
theorem SendSt.step {w0 wr w5 : World} {p : Nat} {d : Cn} {vi vo vt vi' v5 : Value} {cur add : List Int} {m : Nat} (h : SendSt w0 wr p d vi vo vt vi' cur) (hm : add.length = m) (hv : Row w5 5 1 v5 (cur.length + m) (bytesV cur ++ bytesV add)) (hk : Keeps vi'.ownBlock.toList wr w5) (ho : ∀ k, v5.ownBlock = some k → vi'.ownBlock = some k ∨ wr.heap.size ≤ k) (hp : p ∉ vi'.ownBlock.toList) :
    SendSt w0 (w5.setCell ⟨p, 7, none⟩ v5) p d vi vo vt v5 (cur ++ add) := by
  obtain ⟨h1, h2, h3, h4⟩ := h
  subst hm
  have hz := h4.size
  have b5 := h1.keeps hk hp
  refine ⟨by simpa [pc] using b5.set_ 7 v5, ?_, fun k e => ?_, ?_⟩
  · have := hv.far (p := ⟨p, 7, none⟩) (fun k e => hv.blk_ne b5 (by decide) k e) v5
    rw [List.length_append, bytesV_append]
    exact this
  · rcases ho k e with e1 | e1
    · exact h3 k e1
    · exact .inr (by omega)
  · refine (h4.trans hk (fun g hg => ?_)).setCell (p := ⟨p, 7, none⟩) (.inl (by simp)) _
    rcases h3 g (by simpa using hg) with e | e
    · exact .inl (by simp [e])
    · exact .inr e
theorem send_done {w w1 w' wr : World} {n i p : Nat} {F : List Nat} {own : Nat → Nat} {ps : List Nat} {vc vq vi vo vt vi' : Value} {N : NS} {d d' : Cn} {cur : List Int} (h : NAt pc w1 n F own ps vc vq N) (hk1 : Keeps [] w w1) (hp : ps[i]? = some p) (hd : N.cs[i]? = some d) (hc : CAt pc w1 own i p d vi vo vt)
    (hs : SendSt w1 wr p d vi vo vt vi' cur) (hk : Keeps [p] wr w') (hb : Blk w' p pc.T (pc.lay d' vi' vo vt)) (hi : d'.inn = cur) (hg : d'.got = d.got) (ht : d'.told = d.told) : NDone pc w n F (N.upd i d') w' := by
  refine NDone.after h hk1 ?_
  obtain ⟨h1, h2, h3, h4, h5⟩ := hc
  obtain ⟨s1, s2, s3, s4⟩ := hs
  have hpF : p ∈ F := h.ftag p (by omega)
  have K : Keeps (p :: vi.ownBlock.toList) w1 w' := s4.trans hk (fun g hg => by simp at hg; subst hg; exact .inl (by simp))
  have hnot : ∀ k, own k ≠ 4 * i + 4 → own k ≠ 4 * i + 5 → k ∉ p :: vi.ownBlock.toList := fun k a b hx => by
    simp only [List.mem_cons, Option.mem_toList] at hx
    rcases hx with rfl | e
    · exact a h2
    · exact b (h3.2 k e)
  have hvi : Row w' 5 1 vi' cur.length (bytesV cur) := s2.keeps hk (fun k e hx => by simp at hx; exact s2.blk_ne s1 (by decide) k e hx)
  refine ⟨h.put (G := p :: vi.ownBlock.toList) (d' := d') (vi := vi') (vo := vo) (vt := vt) (vq' := vq) hp rfl K ?_ h2 h1.lt ?_ ?_ hb ?_ ?_ ?_ ?_ ?_ ?_ ?_ ?_, ?_⟩
  · intro k hk' _
    simp only [List.mem_cons, Option.mem_toList] at hk'
    rcases hk' with rfl | e
    · omega
    · have := h3.2 k e
      omega
  · exact h.blk.keeps K (hnot n (by rw [h.tn]; omega) (by rw [h.tn]; omega))
  · exact h.rq.keeps K (fun k e => hnot k (by rw [h.oq k e]; omega) (by rw [h.oq k e]; omega))
  · rw [hi]
    exact hvi
  · rw [hg]
    exact h4.1.keeps K (fun k e => hnot k (by rw [h4.2 k e]; omega) (by rw [h4.2 k e]; omega))
  · rw [ht]
    exact h5.1.keeps K (fun k e => hnot k (by rw [h5.2 k e]; omega) (by rw [h5.2 k e]; omega))
  · intro k e
    rcases s3 k e with e1 | e1
    · exact .inl ⟨h3.1.lt k e1, h3.2 k e1⟩
    · exact .inr e1
  · exact fun k e => .inl ⟨h4.1.lt k e, h4.2 k e⟩
  · exact fun k e => .inl ⟨h5.1.lt k e, h5.2 k e⟩
  · exact fun k e => .inl ⟨h.rq.lt k e, h.oq k e⟩
  · intro k hge
    have a := fun e => h4.1.lt k e
    have b := fun e => h5.1.lt k e
    have c := fun e => h.rq.lt k e
    refine ⟨fun e => ⟨fun e1 => ?_, fun e1 => ?_, fun e1 => ?_⟩, fun e => ?_, fun e => ?_⟩
    · have := a e1
      omega
    · have := b e1
      omega
    · have := c e1
      omega
    · have := a e
      omega
    · have := b e
      omega
  · refine K.mono (fun g hg => ?_)
    simp only [List.mem_cons, Option.mem_toList] at hg
    rcases hg with rfl | e
    · exact hpF
    · exact h.ftag g (by rw [h3.2 g e]; omega)
end Go.Proofs.Ytkeffebcmajhmaa
/- The program's net: the walk of Send. -/
namespace Go.Proofs.Ytkeffebcmajhmaa
open Go.RowKit
set_option linter.unusedVariables false
theorem run_cut_hi {P : Program} (w : World) (t e : TypeId) (i : TypeInfo) (size : Nat) (ht : P.underlying t = some (.slice e)) (hi : P.info? e = some i) (hs : i.size = size) (A : Option Addr) (len cap hi' : Nat) (h : Int) (hh : h = hi') (kh : IntKind)
    (h2 : hi' ≤ cap) : (Instr.slice t (.slice A len cap) none (some (.int kh h)) none).run P w = .ok (.slice (cutA A 0 cap size) hi' cap) w := by
  subst hh
  have he : P.elem t = e := by simp [Program.elem, ht]
  have hr := run_slice_h (P := P) (w := w) t A len cap (by rw [he]; exact ht) kh (hi' : Int) (by omega) (by omega)
  rw [hr, he]
  simp [sizeOf, typeInfo, hi, hs, sliced, cutA]
theorem cutA_zero (A : Option Addr) (cap size : Nat) (h : ∀ a, A = some a → a.spot = none) : cutA A 0 cap size = A := by
  unfold cutA
  split
  · rfl
  · cases A with
    | none => rfl
    | some a =>
      have := h a rfl
      obtain ⟨b, o, s⟩ := a
      simp at this
      subst this
      simp [Addr.add_lit]
theorem CellsIn.spot {w : World} {F : List Nat} {A : Option Addr} {n c : Nat} {xs : List Value} (h : CellsIn w F (.slice A n c) xs) (hn : 0 < n) : ∀ a, A = some a → a.spot = none := by
  obtain ⟨A', c', hv, h1, h2, h3⟩ := h
  injection hv with hA hn' hc
  subst hA
  obtain ⟨b, o, hA, -⟩ := h3 (by omega)
  intro a ha
  rw [hA] at ha
  injection ha with ha
  subst ha
  rfl
set_option maxRecDepth 100000 in
set_option maxHeartbeats 2000000 in
theorem send_any (n : Nat) (F : List Nat) (N : NS) (B k : Int) (pv : Value) (rows : List (Value × List Int)) (w : World) (h : NRep pc w n F N) (hN : OkN N B) (hB : B ≤ 1099511627776) (hr : RowsIn w F pv rows) :
    Calls Try.prog 39 #[.pointer (some ⟨n, 0, none⟩), .int .i64 k, pv] w fun e w' => e = .returned (.tuple #[.int .i64 (sendN N k (rows.map (·.2))).2.1, .int .i64 (sendN N k (rows.map (·.2))).2.2]) ∧ NDone pc w n F (sendN N k (rows.map (·.2))).1 w' := by
  have hR := hid h
  obtain ⟨own, ps, vc, vq, h⟩ := h
  have H := hid h
  obtain ⟨i1, hi1, hy0, hy1, hy2⟩ := info_parts u8_info
  unfold sendN
  rcases h.which k with hk | ⟨i, p, d, rfl, hp, hd⟩
  · rw [onConn_none hk]
    have HK := hid hk
    clear h hk hN hr
    simp only
    go_enter Try.func39, Try.ntmps39
    go_wp2_with (go_at_call 73; refine (theirs_out H.out _ HK.out).mono ?_; rintro e w1 ⟨rfl, hk⟩)
    go_ret2
    exact ⟨rfl, NDone.same hR.out hk⟩
  · rw [onConn_some hd]
    obtain ⟨vi, vo, vt, hc⟩ := h.at_ i p d hp hd
    have hok := hN.cn d (List.mem_of_getElem? hd)
    have hr0 := hok.r0
    have hr1 := hok.r1
    have hin := hok.inn
    have HD := hid hd
    have HP := hid hp
    have HC := hid hc
    have c4 := hc.1.cell 4
    simp [pc] at c4
    have hpF : p ∈ F := h.ftag p (by rw [hc.2.1]; omega)
    have hviF : ∀ g, vi.ownBlock = some g → g ∈ F := fun g e => h.ftag g (by rw [hc.2.2.1.2 g e]; omega)
    have HVF := hid hviF
    obtain ⟨t, ht⟩ : ∃ t, theirsD d = t := ⟨_, rfl⟩
    obtain ⟨v, hv⟩ : ∃ v, ptrIf t p = v := ⟨_, rfl⟩
    have HT := hid (theirs_W h hp hd ht hv)
    have HRW := hid hr
    obtain ⟨PA, pcap, hpv, hpc1, hpc2⟩ := hr.1.shape
    have hlr : (rows.map (·.1)).length = rows.length := by simp
    rw [hlr] at hpv hpc1
    subst hpv
    clear h hN hok hp hd hc hr hviF hlr
    unfold sendD
    rw [ht]
    by_cases h0 : t = 0
    · subst h0
      simp [ptrIf] at hv
      subst hv
      rw [if_pos rfl]
      clear ht
      obtain ⟨hv, hhv⟩ : ∃ b, d.halved = b := ⟨_, rfl⟩
      rw [hhv] at c4
      cases hv with
      | true =>
        rw [if_pos hhv]
        simp only
        rw [upd_self HD.out]
        clear hhv
        go_enter Try.func39, Try.ntmps39
        go_wp2_with (go_at_call 73; refine (HT.out _ (Keeps.refl _ _)).mono ?_; rintro e w1 ⟨rfl, hk⟩; have e4 := cell_keep hk (by simp) c4)
        go_ret2
        exact ⟨rfl, NDone.same hR.out hk⟩
      | false =>
        rw [if_neg (by rw [hhv]; simp)]
        simp only
        have HHV := hid hhv
        obtain ⟨TOT, hTOT⟩ : ∃ T, poured d.inn (rows.map (·.2)) = T := ⟨_, rfl⟩
        have hTOT' : (d.inn ++ (rows.map (·.2)).flatten).take 1024 = TOT := hTOT
        rw [hTOT']
        have HTOT := hid hTOT
        obtain ⟨D', hD'⟩ : ∃ D' : Cn, ({ d with inn := TOT, reads := if 0 < TOT.length - d.inn.length then d.reads + 1 else d.reads } : Cn) = D' := ⟨_, rfl⟩
        rw [hD']
        have HD' := hid hD'
        clear hhv hTOT hTOT' hD'
        go_enter Try.func39, Try.ntmps39
        go_wp2_with (go_at_call 73; refine (HT.out _ (Keeps.refl _ _)).mono ?_; rintro e w1 ⟨rfl, hk⟩; have e4 := cell_keep hk (by simp) c4; have HK1 := hid hk; have hz1 := hk.size; clear hk)
        have hst : SendSt w1 w1 p d vi vo vt vi (poured d.inn []) := by
          rw [poured_nil _ hin]
          refine ⟨HC.out.1.keeps HK1.out (by simp), HC.out.2.2.1.1.keeps HK1.out (by simp), fun k e => .inl e, Keeps.refl _ _⟩
        have HST0 := hid hst
        have HC1 := hid (HC.out.keeps HK1.out (by simp))
        have HRW1 := hid (HRW.out.keeps HK1.out (by simp))
        clear hst
        go_loopw [10, 30] (fun many j wr => ∃ (k : Nat) (vi' : Value), k ≤ rows.length ∧ j = .int .i64 k ∧ many = .int .i64 (((poured d.inn ((rows.take k).map (·.2))).length - d.inn.length : Nat) : Int) ∧ SendSt w1 wr p d vi vo vt vi' (poured d.inn ((rows.take k).map (·.2)))) (fun _ j _ => rows.length - (intOf j).toNat)
        case atStart => exact ⟨0, vi, Nat.zero_le _, rfl, by simp [poured_nil _ hin], by simpa using HST0.out⟩
        case round =>
          obtain ⟨k, vi', hk, rfl, hmany, hS⟩ := hrel
          subst hmany
          have HS := hid hS
          obtain ⟨cur, hcur⟩ : ∃ cur, poured d.inn ((rows.take k).map (·.2)) = cur := ⟨_, rfl⟩
          have hcl : cur.length ≤ 1024 := by rw [← hcur]; exact poured_len _ _
          have hcg : d.inn.length ≤ cur.length := by rw [← hcur]; exact poured_ge _ _ hin
          rw [hcur] at HS ⊢
          have HCUR := hid hcur
          have c7 := HS.out.1.cell 7
          have f7 := HS.out.1.frozen 7
          have c9 := HS.out.1.cell 9
          have f9 := HS.out.1.frozen 9
          simp [pc] at c7 c9
          obtain ⟨IA, icap, rfl, -, hicm, -⟩ := HS.out.2.1.form
          clear hS hcur
          by_cases hlt : k < rows.length
          · obtain ⟨⟨rv, rb⟩, hrow⟩ : ∃ r, rows[k]? = some r := ⟨rows[k], List.getElem?_eq_getElem hlt⟩
            have hrc := HRW1.out.2 _ (List.mem_of_getElem? hrow)
            obtain ⟨pb, po, rfl, hpb, hpc⟩ := HRW1.out.1.at_ (by simp; omega)
            have hsub : ∀ g ∈ p :: vi.ownBlock.toList, g ∈ F := fun g hg => by
              simp only [List.mem_cons, Option.mem_toList] at hg
              rcases hg with rfl | e
              · exact hpF
              · exact HVF.out g e
            have q0 := cell_keep HS.out.2.2.2 (fun hx => hpb (hsub _ hx)) (hpc k rv (by simp [hrow]))
            have HRC := hid (hrc.keeps HS.out.2.2.2 (fun g hg => .inl (hsub g hg)))
            obtain ⟨RA, rcap, hrv, hrc1, hrc2⟩ := hrc.shape
            simp only [bytesV_length] at hrv hrc1
            subst hrv
            have HROW := hid hrow
            have hki : (k : Int) < rows.length := by omega
            obtain ⟨m, hm⟩ : ∃ m, min rb.length (1024 - cur.length) = m := ⟨_, rfl⟩
            have hmr : m ≤ rb.length := by omega
            have hm1 : m ≤ 1024 - cur.length := by omega
            have hw1 : IntKind.i64.wrap (1024 - (cur.length : Int)) = 1024 - (cur.length : Int) := IntWalk.i64_in _ (by omega)
            have HNX : Hid (poured d.inn ((rows.take (k + 1)).map (·.2)) = cur ++ rb.take m) := by
              have h1 : rows.take (k + 1) = rows.take k ++ [(.slice RA rb.length rcap, rb)] := by rw [List.take_add_one, HROW.out]; rfl
              rw [h1, List.map_append]
              simp only [List.map_cons, List.map_nil]
              rw [poured_snoc, HCUR.out, hm]
              exact hid rfl
            have htl : (rb.take m).length = m := by rw [List.length_take]; omega
            have HTL := hid htl
            have hpn : p ∉ (Value.slice IA cur.length icap).ownBlock.toList := fun hx => HS.out.2.1.blk_ne HS.out.1 (by decide) p (by simpa using hx) rfl
            have HPN := hid hpn
            have hrd : Reads wr 1 (cutA RA 0 rcap 1) m (bytesV (rb.take m)) := by
              have h1 := (HRC.out.cut (lo := 0) (hi := m) (Nat.zero_le _) hmr).reads.2
              simp only [Nat.sub_zero, List.drop_zero] at h1
              rw [bytesV_take]
              exact h1
            have HRD := hid hrd
            have hcase : ((m : Int) = rb.length ∧ ¬ (1024 - (cur.length : Int) < rb.length)) ∨ ((m : Int) = 1024 - (cur.length : Int) ∧ 1024 - (cur.length : Int) < rb.length) := by omega
            clear htl hpn hrd hrow hpc hrc hm
            have hic : icap ≤ 9223372036854775807 := by unfold maxLen at hicm; omega
            rcases hcase with ⟨hm2, hm3⟩ | ⟨hm2, hm3⟩
            all_goals
              first
                | (have hsl := fun wx => run_cut_hi (P := Try.prog) wx 66 5 i1 1 Try.underlying66 hi1 hy1 RA rb.length rcap m (rb.length : Int) hm2.symm .i64 (by omega); have tk : True := trivial)
                | (have hsl := fun wx => run_cut_hi (P := Try.prog) wx 66 5 i1 1 Try.underlying66 hi1 hy1 RA rb.length rcap m (1024 - (cur.length : Int)) hm2.symm .i64 (by omega))
              clear hm2
              go_wp2_with (at_builtin; refine wpList_append_row _ rfl (.tmp 49) (.tmp 50) _ rfl 5 i1 _ 1 1 Try.underlying66 hi1 hy0 hy1 hy2 rfl (by omega) (.slice IA cur.length icap) cur.length _ rfl HS.out.2.1 (cutA RA 0 rcap 1) m rcap (bytesV (rb.take m)) rfl HRD.out (bytesV_one _) (by simp only [maxLen]; omega) (by omega) ?_; intro v5 w5 hv5 hk5 ho5; obtain ⟨A5, q5, rfl, -⟩ := hv5.form; have b5 := HS.out.1.keeps hk5 HPN.out; have g7 := b5.cell 7; have k7 := b5.frozen 7; simp [pc] at g7; have HV5 := hid hv5; have HK5 := hid hk5; have HO5 := hid ho5; clear b5 hv5 hk5 ho5)
              go_roundw
              case rel =>
                refine ⟨k + 1, .slice A5 (cur.length + m) q5, by omega, by go_num, ?_, ?_⟩
                · rw [HNX.out, List.length_append, HTL.out]
                  have : ((cur.length - d.inn.length : Nat) : Int) + (m : Int) = ((cur.length + m - d.inn.length : Nat) : Int) := by omega
                  rw [this]
                · rw [HNX.out]
                  exact HS.out.step (add := rb.take m) HTL.out HV5.out HK5.out HO5.out HPN.out
              case measure => simp [intOf] <;> omega
          · have hkl : k = rows.length := by omega
            subst hkl
            have hct : cur = TOT := by rw [← HCUR.out, ← HTOT.out, List.take_length]
            subst hct
            have hw1 : IntKind.i64.wrap (d.reads + 1) = d.reads + 1 := IntWalk.i64_in _ (by omega)
            obtain ⟨many, hmany⟩ : ∃ m, cur.length - d.inn.length = m := ⟨_, rfl⟩
            rw [hmany]
            have HM := hid hmany
            clear hmany
            rcases (by omega : 0 < many ∨ many = 0) with hm | rfl
            · have hmi : (0 : Int) < many := by omega
              have hDe : ({ d with inn := cur, reads := d.reads + 1 } : Cn) = D' := by
                rw [← HD'.out, HM.out, if_pos hm]
              have HDE := hid hDe
              clear hDe hm
              go_wp2_with fail
              go_ret2
              rw [HM.out]
              refine ⟨rfl, send_done (H.out.keeps HK1.out (by simp)) HK1.out HP.out HD.out HC1.out HS.out ((Keeps.refl [p] wr).setCell (p := ⟨p, 9, none⟩) (.inl (by simp)) _) ?_ ?_ ?_ ?_⟩
              all_goals rw [← HDE.out]
              simpa [pc] using HS.out.1.set_ 9 (.int .i64 (d.reads + 1))
            · have hDe : ({ d with inn := cur } : Cn) = D' := by
                rw [← HD'.out, HM.out, if_neg (by omega)]
              have HDE := hid hDe
              clear hDe
              go_wp2_with fail
              go_ret2
              rw [HM.out]
              refine ⟨rfl, send_done (H.out.keeps HK1.out (by simp)) HK1.out HP.out HD.out HC1.out HS.out (Keeps.refl [p] wr) ?_ ?_ ?_ ?_⟩
              all_goals rw [← HDE.out]
              exact HS.out.1
    · rw [if_neg h0]
      simp only
      rw [upd_self HD.out]
      simp [ptrIf, h0] at hv
      subst hv
      have HT0 := hid ht
      have hne : (t == 0) = false := by simp [h0]
      have hne2 : (t != 0) = true := by simp [h0]
      clear h0 ht
      go_enter Try.func39, Try.ntmps39
      go_wp2_with (go_at_call 73; refine (HT.out _ (Keeps.refl _ _)).mono ?_; rintro e w1 ⟨rfl, hk⟩)
      go_ret2
      exact ⟨rfl, NDone.same hR.out hk⟩
end Go.Proofs.Ytkeffebcmajhmaa
/- The program's net: Read, Write by contract. -/
namespace Go.Proofs.Ytkeffebcmajhmaa
open Go.RowKit
set_option linter.unusedVariables false
set_option linter.unusedSimpArgs false
theorem read_nil (k most : Int) (w : World) : Calls Try.prog 42 #[.pointer none, .int .i64 k, .int .i64 most] w fun e w' => e = .returned (.tuple #[.slice none 0 0, .int .i64 1]) ∧ Keeps [] w w' := by
  by_cases h : most < 1
  · go_enter Try.func42, Try.ntmps42
    go_wp2
    go_ret2
    exact ⟨rfl, Keeps.refl _ _⟩
  · go_enter Try.func42, Try.ntmps42
    go_wp2_with (go_at_call 74; refine (ours_nil _ _).mono ?_; rintro e w1 ⟨rfl, hk⟩)
    go_ret2
    exact ⟨rfl, hk⟩
theorem write_nil (k : Int) (pv : Value) (w : World) : Calls Try.prog 41 #[.pointer none, .int .i64 k, pv] w fun e w' => e = .returned (.tuple #[.int .i64 0, .int .i64 1]) ∧ Keeps [] w w' := by
  go_enter Try.func41, Try.ntmps41
  go_wp2_with (go_at_call 74; refine (ours_nil _ _).mono ?_; rintro e w1 ⟨rfl, hk⟩)
  go_ret2
  exact ⟨rfl, hk⟩
theorem pnot {own : Nat → Nat} {i p : Nat} {vi vo vt v : Value} {t : Nat} (h : ∀ k, v.ownBlock = some k → own k = t) (hp : own p ≠ t) : p ∉ v.ownBlock.toList := fun hx => hp (h p (by simpa using hx))
theorem read_done {w w5 : World} {n i p m l icap : Nat} {F : List Nat} {own : Nat → Nat} {ps : List Nat} {vc vq vi vo vt v5 : Value} {IA : Option Addr} {N : NS} {d : Cn} (h : NAt pc w n F own ps vc vq N) (hp : ps[i]? = some p) (hc : CAt pc w own i p d vi vo vt)
    (hvi : vi = .slice IA l icap) (hl : d.inn.length = l) (hm : m ≤ l)
    (hv5 : Row w5 5 1 v5 (d.told.length + m) (bytesV d.told ++ bytesV (d.inn.take m))) (hk5 : Keeps vt.ownBlock.toList (w.setCell ⟨p, 7, none⟩ (.slice (cutA IA m icap 1) (l - m) (icap - m))) w5) (ho5 : ∀ k, v5.ownBlock = some k → vt.ownBlock = some k ∨ w.heap.size ≤ k) :
    NDone pc w n F (N.upd i { d with inn := d.inn.drop m, told := d.told ++ d.inn.take m }) (w5.setCell ⟨p, 12, none⟩ v5) := by
  obtain ⟨h1, h2, h3, h4, h5⟩ := hc
  have hpF : p ∈ F := h.ftag p (by omega)
  have hpt : p ∉ vt.ownBlock.toList := pnot (i := i) (vi := vi) (vo := vo) (vt := vt) h5.2 (by omega)
  have b1 := h1.set_ 7 (.slice (cutA IA m icap 1) (l - m) (icap - m))
  have b5 := b1.keeps hk5 hpt
  have K : Keeps (p :: vt.ownBlock.toList) w (w5.setCell ⟨p, 12, none⟩ v5) :=
    (((Keeps.refl (p :: vt.ownBlock.toList) w).setCell (p := ⟨p, 7, none⟩) (.inl (by simp)) _).trans hk5 (fun g hg => .inl (List.mem_cons_of_mem _ hg))).setCell (p := ⟨p, 12, none⟩) (.inl (by simp)) _
  have hnot : ∀ k, own k ≠ 4 * i + 4 → own k ≠ 4 * i + 7 → k ∉ p :: vt.ownBlock.toList := fun k a b hx => by
    simp only [List.mem_cons, Option.mem_toList] at hx
    rcases hx with rfl | e
    · exact a h2
    · exact b (h5.2 k e)
  have hrow := h3.1
  rw [hvi, hl] at hrow
  have hcut := hrow.cut (lo := m) hm
  have oi : ∀ k, (Value.slice (cutA IA m icap 1) (l - m) (icap - m)).ownBlock = some k → k < w.heap.size ∧ own k = 4 * i + 5 := fun k e => by
    rw [ownBlock_cut] at e
    have e2 : vi.ownBlock = some k := by
      rw [hvi]
      cases IA with
      | none => simp [Value.ownBlock] at e
      | some a => simpa [Value.ownBlock] using e
    exact ⟨h3.1.lt k e2, h3.2 k e2⟩
  refine ⟨h.put (G := p :: vt.ownBlock.toList) (d' := { d with inn := d.inn.drop m, told := d.told ++ d.inn.take m }) (vi := .slice (cutA IA m icap 1) (l - m) (icap - m)) (vo := vo) (vt := v5) (vq' := vq) hp rfl K ?_ h2 h1.lt ?_ ?_ ?_ ?_ ?_ ?_ ?_ ?_ ?_ ?_ ?_, ?_⟩
  · intro k hk' _
    simp only [List.mem_cons, Option.mem_toList] at hk'
    rcases hk' with rfl | e
    · omega
    · have := h5.2 k e
      omega
  · exact h.blk.keeps K (hnot n (by rw [h.tn]; omega) (by rw [h.tn]; omega))
  · exact h.rq.keeps K (fun k e => hnot k (by rw [h.oq k e]; omega) (by rw [h.oq k e]; omega))
  · simpa [pc] using b5.set_ 12 v5
  · simp only [List.length_drop, hl]
    rw [bytesV_drop]
    simp only [Nat.mul_one] at hcut
    exact hcut.keeps K (fun k e => hnot k (by rw [(oi k e).2]; omega) (by rw [(oi k e).2]; omega))
  · exact h4.1.keeps K (fun k e => hnot k (by rw [h4.2 k e]; omega) (by rw [h4.2 k e]; omega))
  · have := hv5.far (p := ⟨p, 12, none⟩) (fun k e => hv5.blk_ne b5 (by decide) k e) v5
    simp only [List.length_append, List.length_take, hl, Nat.min_eq_left hm]
    rw [bytesV_append]
    exact this
  · exact fun k e => .inl (oi k e)
  · exact fun k e => .inl ⟨h4.1.lt k e, h4.2 k e⟩
  · intro k e
    rcases ho5 k e with e1 | e1
    · exact .inl ⟨h5.1.lt k e1, h5.2 k e1⟩
    · exact .inr e1
  · exact fun k e => .inl ⟨h.rq.lt k e, h.oq k e⟩
  · intro k hge
    have a := fun e => h4.1.lt k e
    have b := fun e => oi k e
    have c := fun e => h.rq.lt k e
    refine ⟨fun e => ?_, fun e => ?_, fun e e1 => ?_⟩
    · have := (b e).1
      omega
    · have := a e
      omega
    · have := c e1
      omega
  · refine K.mono (fun g hg => ?_)
    simp only [List.mem_cons, Option.mem_toList] at hg
    rcases hg with rfl | e
    · exact hpF
    · exact h.ftag g (by rw [h5.2 g e]; omega)
theorem write_done {w w5 : World} {n i p m : Nat} {F : List Nat} {own : Nat → Nat} {ps : List Nat} {vc vq vi vo vt v5 : Value} {N : NS} {d : Cn} {b : List Int} {u : Int} (h : NAt pc w n F own ps vc vq N) (hp : ps[i]? = some p) (hc : CAt pc w own i p d vi vo vt)
    (hm : b.length = m) (hv5 : Row w5 5 1 v5 (d.got.length + m) (bytesV d.got ++ bytesV b)) (hk5 : Keeps vo.ownBlock.toList w w5) (ho5 : ∀ k, v5.ownBlock = some k → vo.ownBlock = some k ∨ w.heap.size ≤ k) :
    NDone pc w n F (N.upd i { d with got := d.got ++ b, window := u }) ((w5.setCell ⟨p, 11, none⟩ v5).setCell ⟨p, 8, none⟩ (.int .i64 u)) := by
  obtain ⟨h1, h2, h3, h4, h5⟩ := hc
  have hpF : p ∈ F := h.ftag p (by omega)
  have hpt : p ∉ vo.ownBlock.toList := pnot (i := i) (vi := vi) (vo := vo) (vt := vt) h4.2 (by omega)
  have b5 := h1.keeps hk5 hpt
  have K : Keeps (p :: vo.ownBlock.toList) w ((w5.setCell ⟨p, 11, none⟩ v5).setCell ⟨p, 8, none⟩ (.int .i64 u)) :=
    ((hk5.mono (G := p :: vo.ownBlock.toList) (fun g hg => List.mem_cons_of_mem _ hg)).setCell (p := ⟨p, 11, none⟩) (.inl (by simp)) _).setCell (p := ⟨p, 8, none⟩) (.inl (by simp)) _
  have hnot : ∀ k, own k ≠ 4 * i + 4 → own k ≠ 4 * i + 6 → k ∉ p :: vo.ownBlock.toList := fun k a b hx => by
    simp only [List.mem_cons, Option.mem_toList] at hx
    rcases hx with rfl | e
    · exact a h2
    · exact b (h4.2 k e)
  refine ⟨h.put (G := p :: vo.ownBlock.toList) (d' := { d with got := d.got ++ b, window := u }) (vi := vi) (vo := v5) (vt := vt) (vq' := vq) hp rfl K ?_ h2 h1.lt ?_ ?_ ?_ ?_ ?_ ?_ ?_ ?_ ?_ ?_ ?_, ?_⟩
  · intro k hk' _
    simp only [List.mem_cons, Option.mem_toList] at hk'
    rcases hk' with rfl | e
    · omega
    · have := h4.2 k e
      omega
  · exact h.blk.keeps K (hnot n (by rw [h.tn]; omega) (by rw [h.tn]; omega))
  · exact h.rq.keeps K (fun k e => hnot k (by rw [h.oq k e]; omega) (by rw [h.oq k e]; omega))
  · simpa [pc] using (b5.set_ 11 v5).set_ 8 (.int .i64 u)
  · exact h3.1.keeps K (fun k e => hnot k (by rw [h3.2 k e]; omega) (by rw [h3.2 k e]; omega))
  · have h6 := hv5.far (p := ⟨p, 11, none⟩) (fun k e => hv5.blk_ne b5 (by decide) k e) v5
    have h7 := h6.far (p := ⟨p, 8, none⟩) (fun k e => h6.blk_ne (b5.set_ 11 v5) (by decide) k e) (.int .i64 u)
    simp only [List.length_append, hm]
    rw [bytesV_append]
    exact h7
  · exact h5.1.keeps K (fun k e => hnot k (by rw [h5.2 k e]; omega) (by rw [h5.2 k e]; omega))
  · exact fun k e => .inl ⟨h3.1.lt k e, h3.2 k e⟩
  · intro k e
    rcases ho5 k e with e1 | e1
    · exact .inl ⟨h4.1.lt k e1, h4.2 k e1⟩
    · exact .inr e1
  · exact fun k e => .inl ⟨h5.1.lt k e, h5.2 k e⟩
  · exact fun k e => .inl ⟨h.rq.lt k e, h.oq k e⟩
  · intro k hge
    have a := fun e => h3.1.lt k e
    have b := fun e => h5.1.lt k e
    have c := fun e => h.rq.lt k e
    refine ⟨fun e => ?_, fun e => ⟨fun e1 => ?_, fun e1 => ?_⟩, fun e e1 => ?_⟩
    · have := a e
      omega
    · have := b e1
      omega
    · have := c e1
      omega
    · have := c e1
      omega
  · refine K.mono (fun g hg => ?_)
    simp only [List.mem_cons, Option.mem_toList] at hg
    rcases hg with rfl | e
    · exact hpF
    · exact h.ftag g (by rw [h4.2 g e]; omega)
end Go.Proofs.Ytkeffebcmajhmaa
