/- The program's net: Stop by contract. -/
import Derived.Test.YtkeffebcmajhmaaNet17
namespace Go.Proofs.Ytkeffebcmajhmaa
open Go.RowKit
set_option linter.unusedVariables false
theorem NAt.own_ {c : Cfg} {w w' : World} {n : Nat} {F : List Nat} {own : Nat → Nat} {ps : List Nat} {vc vq : Value} {N N' : NS} (h : NAt c w n F own ps vc vq N) (hN : N'.cs = N.cs) (hQ : N'.queue = N.queue) (hk : Keeps [n] w w')
    (hn : Blk w' n c.NT (c.nlay N' vc vq)) : NAt c w' n F own ps vc vq N' := by
  have hnot : ∀ k, own k ≠ 1 → k ∉ [n] := fun k a hx => by
    simp at hx
    subst hx
    exact a h.tn
  refine ⟨h.ftag, fun k e => Nat.lt_of_lt_of_le (h.flt k e) hk.size, h.tn, hn, ?_, h.oc, ?_, h.oq, ?_, ?_⟩
  · rw [hN]
    exact h.rc.keeps hk (fun k e => hnot k (by rw [h.oc k e]; omega))
  · rw [hQ]
    exact h.rq.keeps hk (fun k e => hnot k (by rw [h.oq k e]; omega))
  · rw [hN, h.len]
  · intro j q e hq he
    rw [hN] at he
    obtain ⟨ui, uo, ut, hu⟩ := h.at_ j q e hq he
    exact ⟨ui, uo, ut, hu.keeps hk (fun k a b => hnot k (by omega))⟩
def stops (N : NS) (l : List Nat) : NS := l.foldl stop1 N
theorem stop1_queue (N : NS) (q : Nat) : (stop1 N q).queue = N.queue := by
  unfold stop1
  split <;> rfl
theorem stop1_len (N : NS) (q : Nat) : (stop1 N q).cs.length = N.cs.length := by
  unfold stop1
  split
  · rfl
  · simp [NS.upd]
theorem stops_queue (l : List Nat) : ∀ N, (stops N l).queue = N.queue := by
  induction l with
  | nil => intro N; rfl
  | cons a l ih => intro N; show (stops (stop1 N a) l).queue = _; rw [ih, stop1_queue]
theorem stops_len (l : List Nat) : ∀ N, (stops N l).cs.length = N.cs.length := by
  induction l with
  | nil => intro N; rfl
  | cons a l ih => intro N; show (stops (stop1 N a) l).cs.length = _; rw [ih, stop1_len]
theorem stops_snoc (l : List Nat) (q : Nat) (N : NS) : stops N (l ++ [q]) = stop1 (stops N l) q := by simp [stops]
/-- sound, but for who waits. -/
structure OkW (N : NS) (B : Int) : Prop where
  b0 : 1 ≤ N.backlog
  b1 : N.backlog ≤ 64
  cl : N.cs.length ≤ 65536
  f0 : 0 ≤ N.fails
  f1 : N.fails ≤ 9223372036854775807
  m0 : 0 ≤ N.marks
  m1 : N.marks ≤ B
  op : N.nopen = (N.cs.countP (·.opn) : Nat)
  cn : ∀ d ∈ N.cs, CnOk d B
theorem okW_stop1 {N : NS} {B : Int} (h : OkW N B) (q : Nat) : OkW (stop1 N q) B := by
  unfold stop1
  split
  · exact h
  · rename_i d hd
    have hok := h.cn d (List.mem_of_getElem? hd)
    refine ⟨h.b0, h.b1, by simpa [NS.upd] using h.cl, h.f0, h.f1, h.m0, h.m1, ?_, fun e he => ?_⟩
    · simp only [NS.upd]
      rw [countP_set (d' := { d with broken := true, inn := [], window := 0, waits := false }) hd rfl]
      exact h.op
    · rcases mem_set he with he | rfl
      · exact h.cn e he
      · exact ⟨by simp, by simp, by simp, hok.r0, hok.r1, hok.s0, hok.s1, hok.got, hok.told⟩
theorem okW_stops {B : Int} (l : List Nat) : ∀ N, OkW N B → OkW (stops N l) B := by
  induction l with
  | nil => intro N h; exact h
  | cons a l ih => intro N h; exact ih _ (okW_stop1 h a)
theorem okN_stop {N : NS} {B : Int} (h : OkN N B) : OkN (stopN N) B := by
  have h1 : OkW { N with stopped := true } B := ⟨h.b0, h.b1, h.cl, h.f0, h.f1, h.m0, h.m1, h.op, h.cn⟩
  have h2 := okW_stops N.queue _ h1
  unfold stopN
  exact ⟨h2.b0, h2.b1, by simp; have := h2.b0; unfold stops at this; omega, by simp, by simp, h2.cl, h2.f0, h2.f1, h2.m0, h2.m1, h2.op, h2.cn⟩
set_option maxHeartbeats 1000000 in
theorem stop_any (n : Nat) (F : List Nat) (N : NS) (B : Int) (w : World) (h : NRep pc w n F N) (hN : OkN N B) :
    Calls Try.prog 62 #[.pointer (some ⟨n, 0, none⟩)] w fun e w' => e = .returned (.tuple #[]) ∧ NDone pc w n F (stopN N) w' := by
  obtain ⟨own, ps, vc, vq, h⟩ := h
  have H := hid h
  have HOK := hid hN
  have hnF : n ∈ F := h.ftag n (by rw [h.tn]; omega)
  obtain ⟨A, cap, hvq, hq1, hqm, -⟩ := h.rq.form
  have c2 := h.blk.cell 2
  have c3 := h.blk.cell 3
  have f3 := h.blk.frozen 3
  simp [pc] at c2 c3
  rw [hvq] at c2
  have HS0 : Hid (NAt pc (w.setCell ⟨n, 3, none⟩ (.bool true)) n F own ps vc vq { N with stopped := true }) := by
    refine hid (h.own_ rfl rfl ((Keeps.refl [n] w).setCell (p := ⟨n, 3, none⟩) (.inl (by simp)) _) ?_)
    simpa [pc] using h.blk.set_ 3 (.bool true)
  obtain ⟨l, hl⟩ : ∃ l, N.queue.length = l := ⟨_, rfl⟩
  have hl64 : l ≤ 64 := by
    have := hN.ql
    have := hN.b1
    omega
  rw [hl] at c2 hvq
  have HVQ := hid hvq
  have HL := hid hl
  clear h hN hvq hl
  go_enter Try.func62, Try.ntmps62
  go_wp2_with fail
  go_loopw [14] (fun jv wr => ∃ k : Nat, k ≤ l ∧ jv = .int .i64 k ∧ NAt pc wr n F own ps vc vq (stops { N with stopped := true } (N.queue.take k)) ∧ Keeps F w wr) (fun jv _ => l - (intOf jv).toNat)
  case atStart => exact ⟨0, Nat.zero_le _, rfl, by simpa [stops] using HS0.out, (Keeps.refl F w).setCell (p := ⟨n, 3, none⟩) (.inl hnF) _⟩
  case round =>
    clear HS0
    obtain ⟨k, hk, rfl, hS, hkp⟩ := hrel
    have HS := hid hS
    have HKP := hid hkp
    clear hS hkp
    obtain ⟨NK, hNK⟩ : ∃ M, stops { N with stopped := true } (N.queue.take k) = M := ⟨_, rfl⟩
    have hqq : NK.queue = N.queue := by rw [← hNK, stops_queue]
    have hll : NK.cs.length = N.cs.length := by rw [← hNK, stops_len]
    rw [hNK] at HS
    have HNK := hid hNK
    have HQQ := hid hqq
    have HLL := hid hll
    clear hNK hqq hll
    by_cases hlt : k < l
    · obtain ⟨q, hq⟩ : ∃ q, N.queue[k]? = some q := ⟨N.queue[k]'(by rw [HL.out]; exact hlt), List.getElem?_eq_getElem _⟩
      obtain ⟨d0, hd0, -⟩ := HOK.out.qw q (List.mem_of_getElem? hq)
      have hqlt : q < NK.cs.length := by rw [HLL.out]; exact (List.getElem?_eq_some_iff.1 hd0).1
      obtain ⟨d, hd⟩ : ∃ d, NK.cs[q]? = some d := ⟨NK.cs[q], List.getElem?_eq_getElem hqlt⟩
      obtain ⟨g, qo, qc, hgq, -, -, hqcell, -, -⟩ := HS.out.rq.open_ (by rw [HQQ.out, HL.out]; omega)
      have hA : A = some ⟨g, qo, none⟩ := by
        have := HVQ.out
        rw [this] at hgq
        injection hgq
      subst hA
      have q0 := hqcell k (.int .i64 q) (by rw [HQQ.out]; simp [natsV, hq])
      obtain ⟨p, b, off, ccap, hp, hvc, -, hle, hccm, hcb, hbn, vi, vo, vt, hc⟩ := HS.out.conn hd
      subst hvc
      have c1 := HS.out.blk.cell 1
      simp [pc] at c1
      have hki : (k : Int) < l := by omega
      have hqi : (q : Int) < NK.cs.length := by omega
      have hpT : Blk wr p pc.T _ := hc.1
      have hbp : b ≠ p := fun e => by
        have a1 := HS.out.oc b (by simp [Value.ownBlock])
        have a2 := hc.2.1
        rw [← e, a1] at a2
        omega
      have hnp : n ≠ p := fun e => by
        have a1 := HS.out.tn
        have a2 := hc.2.1
        rw [e, a2] at a1
        omega
      have HC := hid hc
      have HP := hid hp
      have HD := hid hd
      have HNX : Hid (N.queue.take (k + 1) = N.queue.take k ++ [q]) := by
        rw [List.take_add_one, hq]
        exact hid rfl
      have hpF : p ∈ F := HS.out.ftag p (by rw [hc.2.1]; omega)
      clear hqcell hgq hq hd0 hd hp hc hqlt
      go_wp2_with (go_at_call 77; refine (breaks_any p _ _ HC.out.1 (by simp [pc])).mono ?_; rintro e w2 ⟨rfl, hw2⟩; have hb2 := ((HC.out.1.set_ 2 (.bool true)).set_ 7 (.slice none 0 0)).set_ 8 (.int .i64 0); have hk2 : Keeps [p] wr w2 := (by rw [hw2]; exact (((Keeps.refl [p] wr).setCell (p := ⟨p, 2, none⟩) (.inl (by simp)) _).setCell (p := ⟨p, 7, none⟩) (.inl (by simp)) _).setCell (p := ⟨p, 8, none⟩) (.inl (by simp)) _); rw [← hw2] at hb2; have e1 := cell_keep hk2 (by simpa using hnp) c1; have eb := cell_keep hk2 (by simpa using hbp) hcb; have g0 := hb2.cell 0; have k0 := hb2.frozen 0; simp [pc] at g0; have HB2 := hid hb2; have HK2 := hid hk2; clear hb2 hk2 hw2)
      go_roundw
      case rel =>
        have hkk : Keeps [p] wr (w2.setCell ⟨p, 0, none⟩ (.bool false)) := HK2.out.setCell (p := ⟨p, 0, none⟩) (.inl (by simp)) _
        refine ⟨k + 1, by omega, by go_num, ?_, HKP.out.trans hkk (fun g hg => .inl (by simp at hg; subst hg; exact hpF))⟩
        rw [HNX.out, stops_snoc, HNK.out]
        unfold stop1
        rw [HD.out]
        simp only
        have a := HC.out.2.1
        refine HS.out.fix (d' := { d with broken := true, inn := [], window := 0, waits := false }) (vi := .slice none 0 0) (vo := vo) (vt := vt) HP.out rfl rfl hkk (by simp) ?_ ⟨?_, a, ⟨Row.nil _ _ _, by simp [Value.ownBlock]⟩, ?_, ?_⟩
        · exact HS.out.blk.keeps hkk (by simpa using hnp)
        · simpa [pc] using HB2.out.set_ 0 (.bool false)
        · exact HC.out.2.2.2.1.keeps hkk (fun k hk hx => by simp at hx; subst hx; omega)
        · exact HC.out.2.2.2.2.keeps hkk (fun k hk hx => by simp at hx; subst hx; omega)
      case measure => simp [intOf] <;> omega
    · have hkl : k = l := by omega
      subst hkl
      have c2' := HS.out.blk.cell 2
      have f2' := HS.out.blk.frozen 2
      simp [pc] at c2'
      go_wp2_with fail
      go_end0
      have hkn : Keeps [n] wr (wr.setCell ⟨n, 2, none⟩ (.slice none 0 0)) := (Keeps.refl [n] wr).setCell (p := ⟨n, 2, none⟩) (.inl (by simp)) _
      have hst : stopN N = { NK with queue := [] } := by
        unfold stopN
        rw [← HNK.out, ← HL.out, List.take_length]
        rfl
      rw [hst]
      obtain ⟨F', hr, hl⟩ := HS.out.head (G := [n]) (vq' := .slice none 0 0) (N' := { NK with queue := [] }) rfl hkn (fun k hk _ => by simp at hk; subst hk; exact .inl HS.out.tn) (by simpa [pc] using HS.out.blk.set_ 2 (.slice none 0 0)) (by simpa [natsV] using Row.nil _ 3 1) (by simp [Value.ownBlock])
      have hz := HKP.out.size
      refine ⟨rfl, ⟨F', hr, fun k hk => ?_⟩, HKP.out.trans hkn (fun g hg => .inl (by simp at hg; subst hg; exact hnF))⟩
      rcases hl k hk with e | e
      · exact .inl e
      · exact .inr (by omega)
end Go.Proofs.Ytkeffebcmajhmaa
