/- The program's net: New, Connect, Inject, Len by contract. -/
import Derived.Test.YtkeffebcmajhmaaPq03
namespace Go.Proofs.Ytkeffebcmajhmaa
open Go.RowKit
set_option linter.unusedVariables false
structure CnOk (d : Cn) (B : Int) : Prop where
  inn : d.inn.length ≤ 1024
  w0 : 0 ≤ d.window
  w1 : d.window ≤ 1099511627776
  r0 : 0 ≤ d.reads
  r1 : d.reads ≤ B
  s0 : 0 ≤ d.writes
  s1 : d.writes ≤ B
  got : (d.got.length : Int) ≤ B
  told : (d.told.length : Int) ≤ B
structure OkN (N : NS) (B : Int) : Prop where
  b0 : 1 ≤ N.backlog
  b1 : N.backlog ≤ 64
  ql : (N.queue.length : Int) ≤ N.backlog
  qn : N.queue.Nodup
  qw : ∀ q ∈ N.queue, ∃ d, N.cs[q]? = some d ∧ d.waits = true ∧ d.opn = false
  cl : N.cs.length ≤ 65536
  f0 : 0 ≤ N.fails
  f1 : N.fails ≤ 9223372036854775807
  m0 : 0 ≤ N.marks
  m1 : N.marks ≤ B
  op : N.nopen = (N.cs.countP (·.opn) : Nat)
  cn : ∀ d ∈ N.cs, CnOk d B
theorem CnOk.mono {d : Cn} {B B' : Int} (h : CnOk d B) (hB : B ≤ B') : CnOk d B' :=
  ⟨h.inn, h.w0, h.w1, h.r0, Int.le_trans h.r1 hB, h.s0, Int.le_trans h.s1 hB, Int.le_trans h.got hB, Int.le_trans h.told hB⟩
theorem OkN.mono {N : NS} {B B' : Int} (h : OkN N B) (hB : B ≤ B') : OkN N B' :=
  ⟨h.b0, h.b1, h.ql, h.qn, h.qw, h.cl, h.f0, h.f1, h.m0, Int.le_trans h.m1 hB, h.op, fun d hd => (h.cn d hd).mono hB⟩
def newN (b : Int) : NS := ⟨b, [], [], false, 0, 0, 0⟩
def newCn (peer : Int) : Cn := ⟨true, false, false, peer, false, false, false, [], 0, 0, 0, [], []⟩
theorem okN_new (b : Int) (h1 : 1 ≤ b) (h2 : b ≤ 64) : OkN (newN b) 0 :=
  ⟨h1, h2, by simp [newN]; omega, by simp [newN], by simp [newN], by simp [newN], by simp [newN], by simp [newN], by simp [newN], by simp [newN], by simp [newN], by simp [newN]⟩
def connectN (N : NS) (peer : Int) : NS × Int × Int :=
  if peer < 0 ∨ 255 < peer then (N, 0, 1) else if N.stopped = true then (N, 0, 6) else if N.backlog ≤ N.queue.length ∨ 65536 ≤ N.cs.length then (N, 0, 3)
  else ({ N with cs := N.cs ++ [newCn peer], queue := N.queue ++ [N.cs.length], marks := N.marks + 1 }, N.cs.length, 0)
theorem okN_connect {N : NS} {B : Int} (h : OkN N B) (peer : Int) (hB : 0 ≤ B) : OkN (connectN N peer).1 (B + 1) := by
  unfold connectN
  split
  · exact h.mono (by omega)
  · split
    · exact h.mono (by omega)
    · split
      · exact h.mono (by omega)
      · rename_i h1 h2 h3
        refine ⟨h.b0, h.b1, ?_, ?_, ?_, ?_, h.f0, h.f1, ?_, ?_, ?_, ?_⟩
        · simp; omega
        · simp only
          rw [List.nodup_append]
          refine ⟨h.qn, by simp, ?_⟩
          intro a ha b hb
          simp at hb
          subst hb
          rintro rfl
          obtain ⟨d, hd, -⟩ := h.qw _ ha
          have := (List.getElem?_eq_some_iff.1 hd).1
          omega
        · intro q hq
          simp only [List.mem_append, List.mem_singleton] at hq
          rcases hq with hq | rfl
          · obtain ⟨d, hd, hw⟩ := h.qw q hq
            have hlt := (List.getElem?_eq_some_iff.1 hd).1
            exact ⟨d, by simp only; rw [List.getElem?_append_left hlt]; exact hd, hw⟩
          · exact ⟨newCn peer, by simp, rfl, rfl⟩
        · simp; omega
        · have := h.m0; simp only; omega
        · have := h.m1; simp only; omega
        · have := h.op
          simp [newCn, this]
        · intro d hd
          simp only [List.mem_append, List.mem_singleton] at hd
          rcases hd with hd | rfl
          · exact (h.cn d hd).mono (by omega)
          · exact ⟨by simp [newCn], by simp [newCn], by simp [newCn], by simp [newCn], by simp [newCn]; omega, by simp [newCn], by simp [newCn]; omega, by simp [newCn]; omega, by simp [newCn]; omega⟩
def injectN (N : NS) (k : Int) : NS := { N with fails := max 0 k }
theorem okN_inject {N : NS} {B : Int} (h : OkN N B) (k : Int) (hk : k ≤ 9223372036854775807) : OkN (injectN N k) B :=
  ⟨h.b0, h.b1, h.ql, h.qn, h.qw, h.cl, by simp [injectN]; omega, by simp [injectN]; omega, h.m0, h.m1, h.op, h.cn⟩
theorem nnew_bad (b : Int) (w : World) (h : b < 1 ∨ (1 ≤ b ∧ 64 < b)) :
    Calls Try.prog 34 #[.int .i64 b] w fun e w' => e = .returned (.tuple #[.pointer none, .int .i64 1]) ∧ w = w' := by
  rcases h with h | ⟨h0, h⟩
  all_goals
    go_enter Try.func34, Try.ntmps34
    go_wp2
    go_ret2
    exact ⟨rfl, rfl⟩
theorem nrep_new (c : Cfg) (w : World) (b : Int) (cs : Array Value) (h : cs = c.nlay (newN b) (.slice none 0 0) (.slice none 0 0)) : NRep c (w.alloc (.cells cs c.NT)) w.heap.size [w.heap.size] (newN b) := by
  refine ⟨fun k => if k = w.heap.size then 1 else 0, [], .slice none 0 0, .slice none 0 0, ?_⟩
  refine ⟨fun k hk => ?_, ?_, by simp, ?_, Row.nil _ _ _, by simp [Value.ownBlock], Row.nil _ _ _, by simp [Value.ownBlock], rfl, by simp [newN]⟩
  · split at hk
    · rename_i e; simp [e]
    · exact absurd rfl hk
  · simp
  · subst h
    exact Blk.new _ _ _
theorem nnew_ok (b : Int) (w : World) (h1 : 1 ≤ b) (h2 : b ≤ 64) :
    Calls Try.prog 34 #[.int .i64 b] w fun e w' => e = .returned (.tuple #[.pointer (some ⟨w.heap.size, 0, none⟩), .int .i64 0]) ∧ NRep pc w' w.heap.size [w.heap.size] (newN b) ∧ Keeps [] w w' := by
  have h1' : ¬ b < 1 := by omega
  have h2' : ¬ 64 < b := by omega
  go_enter Try.func34, Try.ntmps34
  go_wp2
  go_ret2
  exact ⟨rfl, nrep_new pc w b _ rfl, (Keeps.refl [] w).alloc _⟩
/-- what a call that changes the net leaves. -/
def NDone (c : Cfg) (w : World) (n : Nat) (F : List Nat) (N' : NS) (w' : World) : Prop := (∃ F', NRep c w' n F' N' ∧ LaterF F w F') ∧ Keeps F w w'
theorem NDone.same {c : Cfg} {w w' : World} {n : Nat} {F : List Nat} {N : NS} (h : NRep c w n F N) (hk : Keeps [] w w') : NDone c w n F N w' :=
  ⟨⟨F, h.keeps hk (by simp), fun k hk => .inl hk⟩, hk.mono (by simp)⟩
theorem NDone.pre {c : Cfg} {w w' : World} {n k : Nat} {F : List Nat} {N : NS} (h : NDone c (w.drewN k) n F N w') : NDone c w n F N w' := ⟨h.1, h.2.pre⟩
theorem nptr_info : (Try.prog.info? pc.PT).map (fun i => (i.zero, i.size, i.bytes)) = some (some (.pointer none), 1, 8) := by kernel_rfl
theorem int_info : (Try.prog.info? 3).map (fun i => (i.zero, i.size, i.bytes)) = some (some (.int .i64 0), 1, 8) := by kernel_rfl
theorem ptrsV_one (l : List Nat) : ∀ u ∈ ptrsV l, u.oneCell' = true := by
  intro u hu
  unfold ptrsV at hu
  obtain ⟨x, -, rfl⟩ := List.mem_map.1 hu
  rfl
theorem connect_done {w w5 w6 : World} {n : Nat} {F : List Nat} {own : Nat → Nat} {ps : List Nat} {vc vq v5 v6 : Value} {N : NS} {peer : Int} {o2 o3 : Obj} (h : NAt pc w n F own ps vc vq N)
    (hv5 : Row w5 pc.PT 1 v5 (N.cs.length + 1) (ptrsV ps ++ [.pointer (some ⟨w.heap.size, 0, none⟩)]))
    (hk5 : Keeps vc.ownBlock.toList ((w.alloc (.cells (pc.lay (newCn peer) (.slice none 0 0) (.slice none 0 0) (.slice none 0 0)) pc.T)).alloc o2) w5)
    (ho5 : ∀ k, v5.ownBlock = some k → vc.ownBlock = some k ∨ ((w.alloc (.cells (pc.lay (newCn peer) (.slice none 0 0) (.slice none 0 0) (.slice none 0 0)) pc.T)).alloc o2).heap.size ≤ k)
    (hv6 : Row w6 3 1 v6 (N.queue.length + 1) (natsV N.queue ++ [.int .i64 (N.cs.length : Int)]))
    (hk6 : Keeps vq.ownBlock.toList ((w5.setCell ⟨n, 1, none⟩ v5).alloc o3) w6)
    (ho6 : ∀ k, v6.ownBlock = some k → vq.ownBlock = some k ∨ ((w5.setCell ⟨n, 1, none⟩ v5).alloc o3).heap.size ≤ k) :
    NDone pc w n F { N with cs := N.cs ++ [newCn peer], queue := N.queue ++ [N.cs.length], marks := N.marks + 1 } ((w6.setCell ⟨n, 2, none⟩ v6).setCell ⟨n, 5, none⟩ (.int .i64 (N.marks + 1))) := by
  obtain ⟨W5, hW5⟩ : ∃ W, (w.alloc (.cells (pc.lay (newCn peer) (.slice none 0 0) (.slice none 0 0) (.slice none 0 0)) pc.T)).alloc o2 = W := ⟨_, rfl⟩
  have hz5 : W5.heap.size = w.heap.size + 2 := by rw [← hW5]; simp
  have hk05 : Keeps [] w W5 := by rw [← hW5]; exact ((Keeps.refl [] w).alloc _).alloc _
  have hbp : Blk W5 w.heap.size pc.T (pc.lay (newCn peer) (.slice none 0 0) (.slice none 0 0) (.slice none 0 0)) := by rw [← hW5]; exact (Blk.new w _ _).alloc _
  rw [hW5] at hk5 ho5
  have hz6 := hk5.size
  have hz7 := hk6.size
  simp [World.setCell] at hz7
  have hnl := h.blk.lt
  have nvc : n ∉ vc.ownBlock.toList := fun hx => by
    have := h.oc n (by simpa using hx)
    rw [h.tn] at this
    omega
  have nvq : n ∉ vq.ownBlock.toList := fun hx => by
    have := h.oq n (by simpa using hx)
    rw [h.tn] at this
    omega
  have lc : ∀ k, vc.ownBlock = some k → k < w.heap.size := h.rc.lt
  have lq : ∀ k, vq.ownBlock = some k → k < w.heap.size := h.rq.lt
  have b5 := (h.blk.keeps hk05 (by simp)).keeps hk5 nvc
  have b6 := ((b5.set_ 1 v5).alloc o3).keeps hk6 nvq
  have b7 := (b6.set_ 2 v6).set_ 5 (.int .i64 (N.marks + 1))
  have p5 := hbp.keeps hk5 (fun hx => by have := lc _ (by simpa using hx); omega)
  have pne : w.heap.size ≠ n := by omega
  have p6 := ((p5.far (p := ⟨n, 1, none⟩) pne v5).alloc o3).keeps hk6 (fun hx => by have := lq _ (by simpa using hx); omega)
  have p7 := (p6.far (p := ⟨n, 2, none⟩) pne v6).far (p := ⟨n, 5, none⟩) pne (.int .i64 (N.marks + 1))
  have r5 := hv5.far (p := ⟨n, 1, none⟩) (fun k e => hv5.blk_ne b5 (by decide) k e) v5
  have q0 : Row ((w5.setCell ⟨n, 1, none⟩ v5).alloc o3) 3 1 vq N.queue.length (natsV N.queue) := by
    have h1 := (h.rq.keeps hk05 (by simp)).keeps hk5 (fun k e hx => by
      have a := h.oq k e
      have b := h.oc k (by simpa using hx)
      omega)
    exact (h1.far (p := ⟨n, 1, none⟩) (fun k e => h1.blk_ne b5 (by decide) k e) v5).alloc o3
  have cq : ∀ k, v5.ownBlock = some k → vq.ownBlock ≠ some k := (r5.alloc o3).disj q0 (by decide)
  have r6 := (r5.alloc o3).keeps hk6 (fun k e hx => cq k e (by simpa using hx))
  have r7 := (r6.far (p := ⟨n, 2, none⟩) (fun k e => r6.blk_ne b6 (by decide) k e) v6)
  have r8 := (r7.far (p := ⟨n, 5, none⟩) (fun k e => r7.blk_ne (b6.set_ 2 v6) (by decide) k e) (.int .i64 (N.marks + 1)))
  have q6 := hv6.far (p := ⟨n, 2, none⟩) (fun k e => hv6.blk_ne b6 (by decide) k e) v6
  have q7 := q6.far (p := ⟨n, 5, none⟩) (fun k e => q6.blk_ne (b6.set_ 2 v6) (by decide) k e) (.int .i64 (N.marks + 1))
  have K5 : Keeps (n :: (vc.ownBlock.toList ++ vq.ownBlock.toList)) w w5 := (hk05.mono (by simp)).trans hk5 (fun g hg => .inl (by simp at hg; simp [hg]))
  have K6 : Keeps (n :: (vc.ownBlock.toList ++ vq.ownBlock.toList)) w w6 := ((K5.setCell (p := ⟨n, 1, none⟩) (.inl (by simp)) v5).alloc o3).trans hk6 (fun g hg => .inl (by simp at hg; simp [hg]))
  have K7 := (K6.setCell (p := ⟨n, 2, none⟩) (.inl (by simp)) v6).setCell (p := ⟨n, 5, none⟩) (.inl (by simp)) (.int .i64 (N.marks + 1))
  have hnF : n ∈ F := h.ftag n (by rw [h.tn]; omega)
  refine ⟨h.push (G := n :: (vc.ownBlock.toList ++ vq.ownBlock.toList)) (p := w.heap.size) (d := newCn peer) (vc' := v5) (vq' := v6) (by rfl) K7 ?_ (Nat.le_refl _) ?_ ?_ ?_ p7 ⟨rfl, rfl, rfl⟩ ?_ ?_ ⟨?_, ?_, ?_⟩, ?_⟩
  · intro k hk _
    simp only [List.mem_cons, List.mem_append, Option.mem_toList] at hk
    rcases hk with rfl | e | e
    · exact .inl h.tn
    · exact .inr (.inl (h.oc k e))
    · exact .inr (.inr (h.oq k e))
  · simpa [pc] using b7
  · simpa [ptrsV, h.len] using r8
  · simpa [natsV] using q7
  · intro k e
    rcases ho5 k e with h1 | h1
    · exact .inl ⟨lc k h1, h.oc k h1⟩
    · exact .inr (by omega)
  · intro k e
    rcases ho6 k e with h1 | h1
    · exact .inl ⟨lq k h1, h.oq k h1⟩
    · simp [World.setCell] at h1
      exact .inr (by omega)
  · intro e
    rcases ho5 _ e with h1 | h1
    · have := lc _ h1
      omega
    · omega
  · intro e
    rcases ho6 _ e with h1 | h1
    · have := lq _ h1
      omega
    · simp [World.setCell] at h1
      omega
  · exact fun k _ e => r8.disj q7 (by decide) k e
  · refine K7.mono (fun g hg => ?_)
    simp only [List.mem_cons, List.mem_append, Option.mem_toList] at hg
    rcases hg with rfl | e | e
    · exact hnF
    · exact h.ftag g (by rw [h.oc g e]; omega)
    · exact h.ftag g (by rw [h.oq g e]; omega)
end Go.Proofs.Ytkeffebcmajhmaa
/- The program's net: Connect, Inject, Len, Accept by contract. -/
namespace Go.Proofs.Ytkeffebcmajhmaa
open Go.RowKit
set_option linter.unusedVariables false
theorem connect_nil (peer : Int) (w : World) : Calls Try.prog 37 #[.pointer none, .int .i64 peer] w fun e w' => e = .returned (.tuple #[.int .i64 0, .int .i64 1]) ∧ Keeps [] w w' := by
  go_enter Try.func37, Try.ntmps37
  go_wp2
  go_ret2
  exact ⟨rfl, Keeps.refl _ _⟩
set_option maxRecDepth 100000 in
set_option maxHeartbeats 1000000 in
theorem connect_any (n : Nat) (F : List Nat) (N : NS) (B peer : Int) (w : World) (h : NRep pc w n F N) (hN : OkN N B) (hB : B ≤ 1099511627776) :
    Calls Try.prog 37 #[.pointer (some ⟨n, 0, none⟩), .int .i64 peer] w fun e w' => e = .returned (.tuple #[.int .i64 (connectN N peer).2.1, .int .i64 (connectN N peer).2.2]) ∧ NDone pc w n F (connectN N peer).1 w' := by
  obtain ⟨own, ps, vc, vq, h⟩ := h
  have H := hid h
  have HOK := hid hN
  have hb := h.blk
  obtain ⟨vcA, vcc, rfl, -, hvcm, -⟩ := h.rc.form
  obtain ⟨vqA, vqc, rfl, -, hvqm, -⟩ := h.rq.form
  have c0 := hb.cell 0
  have c1 := hb.cell 1
  have c2 := hb.cell 2
  have c3 := hb.cell 3
  have c5 := hb.cell 5
  simp [pc] at c0 c1 c2 c3 c5
  have hq1 := hN.ql
  have hq2 := hN.b1
  have hcl := hN.cl
  have hm0 := hN.m0
  have hm1 := hN.m1
  unfold maxLen at hvcm hvqm
  have HSAME : Hid (∀ w', Keeps [] w w' → NDone pc w n F N w') := hid fun w' hk => NDone.same ⟨own, ps, _, _, H.out⟩ hk
  clear h hN hb
  by_cases p0 : peer < 0 ∨ (0 ≤ peer ∧ 255 < peer)
  · have e : connectN N peer = (N, 0, 1) := by unfold connectN; rw [if_pos (by omega)]
    rw [e]
    clear e
    rcases p0 with p0 | ⟨p1, p0⟩
    all_goals
      go_enter Try.func37, Try.ntmps37
      go_wp2
      go_ret2
      exact ⟨rfl, HSAME.out _ (Keeps.refl _ _)⟩
  · have p1 : 0 ≤ peer := by omega
    have p2 : peer ≤ 255 := by omega
    clear p0
    obtain ⟨st, hst⟩ : ∃ st, N.stopped = st := ⟨_, rfl⟩
    rw [hst] at c3
    cases st with
    | true =>
      have e : connectN N peer = (N, 0, 6) := by unfold connectN; rw [if_neg (by omega), if_pos hst]
      rw [e]
      clear e hst
      go_enter Try.func37, Try.ntmps37
      go_wp2
      go_ret2
      exact ⟨rfl, HSAME.out _ (Keeps.refl _ _)⟩
    | false =>
      by_cases hfull : N.backlog ≤ N.queue.length ∨ 65536 ≤ N.cs.length
      · have e : connectN N peer = (N, 0, 3) := by unfold connectN; rw [if_neg (by omega), if_neg (by simp [hst]), if_pos hfull]
        rw [e]
        clear e hst
        rcases (by omega : N.backlog ≤ (N.queue.length : Int) ∨ (¬ N.backlog ≤ (N.queue.length : Int) ∧ 65536 ≤ (N.cs.length : Int))) with g | ⟨g0, g⟩
        · have d1 : decide (N.backlog ≤ (N.queue.length : Int)) = true := by simpa using g
          go_enter Try.func37, Try.ntmps37
          go_wp2_with fail
          go_quiet (fail)
          go_wp2
          go_ret2
          exact ⟨rfl, HSAME.out _ ((Keeps.refl [] w).drewN _)⟩
        · have d1 : decide (N.backlog ≤ (N.queue.length : Int)) = false := by simpa using g0
          have d2 : decide ((65536 : Int) ≤ (N.cs.length : Int)) = true := by simpa using g
          go_enter Try.func37, Try.ntmps37
          go_wp2_with fail
          go_quiet (fail)
          go_wp2
          go_ret2
          exact ⟨rfl, HSAME.out _ ((Keeps.refl [] w).drewN _)⟩
      · have e : connectN N peer = ({ N with cs := N.cs ++ [newCn peer], queue := N.queue ++ [N.cs.length], marks := N.marks + 1 }, (N.cs.length : Int), 0) := by
          unfold connectN
          rw [if_neg (by omega), if_neg (by simp [hst]), if_neg hfull]
        have HE := hid e
        have d1 : decide (N.backlog ≤ (N.queue.length : Int)) = false := by simp; omega
        have d3 : decide (peer < 0) = false := by simpa using p1
        have d4 : decide (255 < peer) = false := by simpa using p2
        have d2 : decide ((65536 : Int) ≤ (N.cs.length : Int)) = false := by simp; omega
        obtain ⟨i1, hi1, hy0, hy1, hy2⟩ := info_parts nptr_info
        obtain ⟨j1, hj1, hx0, hx1, hx2⟩ := info_parts int_info
        have hw1 : IntKind.i64.wrap (N.marks + 1) = N.marks + 1 := IntWalk.i64_in _ (by omega)
        have nvc : n ∉ (Value.slice vcA N.cs.length vcc).ownBlock.toList := fun hx => by
          have := H.out.oc n (by simpa using hx)
          rw [H.out.tn] at this
          omega
        have nvq : n ∉ (Value.slice vqA N.queue.length vqc).ownBlock.toList := fun hx => by
          have := H.out.oq n (by simpa using hx)
          rw [H.out.tn] at this
          omega
        have cvq : ∀ k, (Value.slice vqA N.queue.length vqc).ownBlock = some k → k ∉ (Value.slice vcA N.cs.length vcc).ownBlock.toList := fun k e1 hx => by
          have a := H.out.oq k e1
          have b := H.out.oc k (by simpa using hx)
          omega
        have HB := hid H.out.blk
        have HQ := hid H.out.rq
        have HC := hid H.out.rc
        have HNVC := hid nvc
        have HNVQ := hid nvq
        have HCVQ := hid cvq
        clear nvc nvq cvq e hst hfull
        rw [HE.out]
        simp only
        go_enter Try.func37, Try.ntmps37
        go_wp2_with fail
        go_quiet (fail)
        rename_i nq
        have hk0 : Keeps [] w (w.drewN nq) := (Keeps.refl [] w).drewN nq
        go_wp2_with (first
          | (at_builtin; refine wpList_append_row _ rfl (.tmp 51) (.tmp 56) _ rfl 143 i1 _ 1 8 Try.underlying140 hi1 hy0 hy1 hy2 rfl (by omega) (.slice vcA N.cs.length vcc) N.cs.length _ rfl ((((HC.out.drewN _).alloc _).alloc _)) (some ⟨w.heap.size + 1, 0, none⟩) 1 1 [.pointer (some ⟨w.heap.size, 0, none⟩)] rfl (reads_blk1 (Blk.newAt (by simp))) (by simp [Value.oneCell']) (by simp only [maxLen]; omega) (by omega) ?_; intro v5 w5 hv5 hk5 ho5; obtain ⟨A5, q5, rfl, -⟩ := hv5.form; have b5 := (((HB.out.drewN nq).alloc _).alloc _).keeps hk5 HNVC.out; have e1 := b5.cell 1; have e2 := b5.cell 2; have e5 := b5.cell 5; have f1 := b5.frozen 1; have f2 := b5.frozen 2; have f5 := b5.frozen 5; simp [pc] at e1 e2 e5; have hq5 := (((HQ.out.drewN nq).alloc _).alloc _).keeps hk5 HCVQ.out; have HQ5 := hid (hq5.far (p := ⟨n, 1, none⟩) (fun k e => hq5.blk_ne b5 (by decide) k e) (.slice A5 (N.cs.length + 1) q5)); have B5 := hid b5; have HV5 := hid hv5; have HK5 := hid hk5; have HO5 := hid ho5; clear hq5 b5 hv5 hk5 ho5)
          | (at_builtin; refine wpList_append_row _ rfl (.tmp 64) (.tmp 66) _ rfl 3 j1 _ 1 8 Try.underlying22 hj1 hx0 hx1 hx2 rfl (by omega) (.slice vqA N.queue.length vqc) N.queue.length _ rfl (HQ5.out.alloc _) (some ⟨w5.heap.size, 0, none⟩) 1 1 [.int .i64 (N.cs.length : Int)] rfl (reads_blk1 (Blk.newAt (by simp [World.setCell]))) (by simp [Value.oneCell']) (by simp only [maxLen]; omega) (by omega) ?_; intro v6 w6 hv6 hk6 ho6; obtain ⟨A6, q6, rfl, -⟩ := hv6.form; have b6 := ((B5.out.set_ 1 _).alloc _).keeps hk6 HNVQ.out; have g5 := b6.cell 5; have g2 := b6.cell 2; have k2 := b6.frozen 2; have k5 := b6.frozen 5; simp [pc] at g5 g2; have HV6 := hid hv6; have HK6 := hid hk6; have HO6 := hid ho6; clear b6 hv6 hk6 ho6))
        go_ret2
        exact ⟨rfl, NDone.pre (connect_done (H.out.keeps hk0 (by simp)) HV5.out HK5.out HO5.out HV6.out HK6.out HO6.out)⟩
end Go.Proofs.Ytkeffebcmajhmaa
/- What the net's calls make of it, in plain words; what a call that changes one connection leaves. -/
namespace Go.Proofs.Ytkeffebcmajhmaa
open Go.RowKit
set_option linter.unusedVariables false
def cnAt (N : NS) (c : Int) : Option (Nat × Cn) := if 0 ≤ c then (N.cs[c.toNat]?).map (fun d => (c.toNat, d)) else none
def NS.upd (N : NS) (i : Nat) (d : Cn) : NS := { N with cs := N.cs.set i d }
def onConn {α : Type} (N : NS) (c : Int) (f : Cn → Cn × α) (dflt : α) : NS × α := match cnAt N c with
  | none => (N, dflt)
  | some (i, d) => (N.upd i (f d).1, (f d).2)
def halfD (d : Cn) : Cn × Int := if theirsD d = 0 then (if d.halved = true then (d, 0) else ({ d with halved := true, reads := d.reads + 1 }, 0)) else (d, theirsD d)
def brokenD (d : Cn) : Cn := { d with broken := true, inn := [], window := 0 }
def resetD (d : Cn) : Cn × Int := if theirsD d = 0 then ({ d with broken := true, inn := [], window := 0, reads := d.reads + 1, writes := d.writes + 1 }, 0) else (d, theirsD d)
def openD (b : Int) (d : Cn) : Cn × Int := if theirsD d = 0 then ({ d with window := d.window + min b (1099511627776 - d.window), writes := if 0 < b then d.writes + 1 else d.writes }, 0) else (d, theirsD d)
def shutD (d : Cn) : Cn × Int := if oursD d = 0 then ({ d with shut := true }, 0) else (d, oursD d)
def sendD (rows : List (List Int)) (d : Cn) : Cn × Int × Int :=
  if theirsD d = 0 then (if d.halved = true then (d, 0, 6) else ({ d with inn := (d.inn ++ rows.flatten).take 1024, reads := if 0 < ((d.inn ++ rows.flatten).take 1024).length - d.inn.length then d.reads + 1 else d.reads }, ((((d.inn ++ rows.flatten).take 1024).length - d.inn.length : Nat) : Int), 0))
  else (d, 0, theirsD d)
def readD (most : Nat) (d : Cn) : Cn × List Int × Int :=
  if oursD d = 0 then (if d.inn = [] ∧ d.halved = false then (d, [], 4) else ({ d with inn := d.inn.drop most, told := d.told ++ d.inn.take most }, d.inn.take most, 0)) else (d, [], oursD d)
def writeD (b : List Int) (d : Cn) : Cn × Int × Int :=
  if oursD d = 0 then (if d.shut = true then (d, 0, 6) else if b = [] then (d, 0, 0) else if d.window = 0 then (d, 0, 4) else
    ({ d with got := d.got ++ b.take (min b.length d.window.toNat), window := d.window - (min b.length d.window.toNat : Nat) }, ((min b.length d.window.toNat : Nat) : Int), 0)) else (d, 0, oursD d)
def halfN (N : NS) (c : Int) : NS × Int := onConn N c halfD 2
def resetN (N : NS) (c : Int) : NS × Int := onConn N c resetD 2
def openN (N : NS) (c b : Int) : NS × Int := if b < 0 then (N, 1) else onConn N c (openD b) 2
def shutN (N : NS) (c : Int) : NS × Int := onConn N c shutD 2
def sendN (N : NS) (c : Int) (rows : List (List Int)) : NS × Int × Int := onConn N c (sendD rows) (0, 2)
def readN (N : NS) (c most : Int) : NS × List Int × Int := if most < 1 then (N, [], 1) else onConn N c (readD most.toNat) ([], 2)
def writeN (N : NS) (c : Int) (b : List Int) : NS × Int × Int := onConn N c (writeD b) (0, 2)
def acceptN (N : NS) : NS × Int × Int × Int :=
  if N.stopped = true then (N, 0, 0, 6) else match N.queue with
    | [] => (N, 0, 0, 2)
    | q :: rest => if 0 < N.fails then ({ N with fails := N.fails - 1 }, 0, 0, 7) else match N.cs[q]? with
      | none => (N, 0, 0, 0)
      | some d => ({ N with queue := rest, cs := N.cs.set q { d with waits := false, opn := true, taken := true }, nopen := N.nopen + 1 }, (q : Int), d.peer, 0)
def close1 (N : NS) (c : Int) : NS × Int := match cnAt N c with
  | none => (N, 0)
  | some (i, d) => if d.opn = true then ({ N with cs := N.cs.set i { d with opn := false }, nopen := N.nopen - 1 }, 1) else (N, 0)
def closeN (N : NS) : List Int → NS × Int
  | [] => (N, 0)
  | c :: l => ((closeN (close1 N c).1 l).1, (close1 N c).2 + (closeN (close1 N c).1 l).2)
def stop1 (N : NS) (q : Nat) : NS := match N.cs[q]? with
  | none => N
  | some d => N.upd q { d with broken := true, inn := [], window := 0, waits := false }
def stopN (N : NS) : NS := { (N.queue.foldl stop1 { N with stopped := true }) with queue := [] }
def readyN (N : NS) (c : Int) : Bool × Bool := if c = -1 then (decide (0 < N.queue.length), false) else match cnAt N c with
  | none => (false, false)
  | some (_, d) => if d.opn = true then (decide (0 < d.inn.length) || d.halved || d.broken, (decide (0 < d.window) && !d.shut) || d.broken) else (false, false)
def marksN (N : NS) (c : Int) : Int × Int := if c = -1 then (N.marks, 0) else match cnAt N c with
  | none => (0, 0)
  | some (_, d) => (d.reads, d.writes)
def gotN (N : NS) (c : Int) : List Int × Bool := match cnAt N c with
  | none => ([], false)
  | some (_, d) => (d.got, d.shut || d.broken || (d.taken && !d.opn))
def takenN (N : NS) (c : Int) : List Int := match cnAt N c with
  | none => []
  | some (_, d) => d.told
def stateN (N : NS) (c : Int) : Bool × Bool × Bool × Int := match cnAt N c with
  | none => (false, false, false, 0)
  | some (_, d) => (d.waits, d.opn, d.broken, d.peer)
theorem upd_self {N : NS} {i : Nat} {d : Cn} (h : N.cs[i]? = some d) : N.upd i d = N := by
  unfold NS.upd
  rw [set_self _ _ _ h]
theorem cnAt_some {N : NS} {i : Nat} {d : Cn} (h : N.cs[i]? = some d) : cnAt N i = some (i, d) := by
  unfold cnAt
  rw [if_pos (by omega), Int.toNat_natCast, h]
  rfl
theorem cnAt_none {N : NS} {c : Int} (h : c < 0 ∨ (0 ≤ c ∧ (N.cs.length : Int) ≤ c)) : cnAt N c = none := by
  unfold cnAt
  split
  · rw [List.getElem?_eq_none (by omega)]
    rfl
  · rfl
theorem onConn_some {α : Type} {N : NS} {i : Nat} {d : Cn} (h : N.cs[i]? = some d) (f : Cn → Cn × α) (x : α) : onConn N i f x = (N.upd i (f d).1, (f d).2) := by
  unfold onConn
  rw [cnAt_some h]
theorem onConn_none {α : Type} {N : NS} {c : Int} (h : c < 0 ∨ (0 ≤ c ∧ (N.cs.length : Int) ≤ c)) (f : Cn → Cn × α) (x : α) : onConn N c f x = (N, x) := by
  unfold onConn
  rw [cnAt_none h]
/-! ### what stays sound -/
theorem countP_set {l : List Cn} {i : Nat} {d d' : Cn} (h : l[i]? = some d) (he : d'.opn = d.opn) : (l.set i d').countP (·.opn) = l.countP (·.opn) := by
  induction l generalizing i with
  | nil => simp at h
  | cons e l ih =>
    cases i with
    | zero =>
      simp at h
      subst h
      simp [List.countP_cons, he]
    | succ i =>
      simp only [List.set_cons_succ, List.countP_cons]
      rw [ih (by simpa using h)]
theorem mem_set {l : List Cn} {i : Nat} {d' e : Cn} (h : e ∈ l.set i d') : e ∈ l ∨ e = d' := List.mem_or_eq_of_mem_set h
theorem OkN.upd {N : NS} {B B' : Int} {i : Nat} {d d' : Cn} (h : OkN N B) (hB : B ≤ B') (hd : N.cs[i]? = some d) (h1 : d'.opn = d.opn) (h2 : d'.waits = d.waits) (hc : CnOk d' B') : OkN (N.upd i d') B' := by
  refine ⟨h.b0, h.b1, h.ql, h.qn, fun q hq => ?_, by simpa [NS.upd] using h.cl, h.f0, h.f1, h.m0, Int.le_trans h.m1 hB, ?_, fun e he => ?_⟩
  · obtain ⟨e, he, hw⟩ := h.qw q hq
    by_cases hqi : q = i
    · subst hqi
      rw [hd] at he
      injection he with he
      subst he
      have hlt := (List.getElem?_eq_some_iff.1 hd).1
      exact ⟨d', by simp only [NS.upd]; rw [List.getElem?_set_self hlt], by rw [h2, hw.1], by rw [h1, hw.2]⟩
    · exact ⟨e, by simp only [NS.upd]; rw [List.getElem?_set_ne (by omega)]; exact he, hw⟩
  · simp only [NS.upd]
    rw [countP_set hd h1]
    exact h.op
  · rcases mem_set he with he | rfl
    · exact (h.cn e he).mono hB
    · exact hc
theorem OkN.on {α : Type} {N : NS} {B B' : Int} {c : Int} {f : Cn → Cn × α} {x : α} (h : OkN N B) (hB : B ≤ B') (hf : ∀ d, CnOk d B → (f d).1.opn = d.opn ∧ (f d).1.waits = d.waits ∧ CnOk (f d).1 B') : OkN (onConn N c f x).1 B' := by
  unfold onConn
  split
  · exact h.mono hB
  · rename_i i d hc
    unfold cnAt at hc
    split at hc
    · obtain ⟨d0, h0, h1⟩ := Option.map_eq_some_iff.1 hc
      injection h1 with h1 h2
      subst h1 h2
      obtain ⟨g1, g2, g3⟩ := hf d0 (h.cn d0 (List.mem_of_getElem? h0))
      exact h.upd hB h0 g1 g2 g3
    · cases hc
theorem okN_half {N : NS} {B : Int} (h : OkN N B) (c : Int) : OkN (halfN N c).1 (B + 1) := h.on (by omega) fun d hd => by
  unfold halfD
  split
  · split
    · exact ⟨rfl, rfl, hd.mono (by omega)⟩
    · exact ⟨rfl, rfl, hd.inn, hd.w0, hd.w1, by have := hd.r0; simp only; omega, by have := hd.r1; simp only; omega, hd.s0, by have := hd.s1; simp only; omega, by have := hd.got; simp only; omega, by have := hd.told; simp only; omega⟩
  · exact ⟨rfl, rfl, hd.mono (by omega)⟩
theorem okN_reset {N : NS} {B : Int} (h : OkN N B) (c : Int) : OkN (resetN N c).1 (B + 1) := h.on (by omega) fun d hd => by
  unfold resetD
  split
  · exact ⟨rfl, rfl, by simp, by simp, by simp, by have := hd.r0; simp only; omega, by have := hd.r1; simp only; omega, by have := hd.s0; simp only; omega, by have := hd.s1; simp only; omega, by have := hd.got; simp only; omega, by have := hd.told; simp only; omega⟩
  · exact ⟨rfl, rfl, hd.mono (by omega)⟩
theorem okN_open {N : NS} {B : Int} (h : OkN N B) (c b : Int) : OkN (openN N c b).1 (B + 1) := by
  unfold openN
  split
  · exact h.mono (by omega)
  · refine h.on (by omega) fun d hd => ?_
    unfold openD
    split
    · have h0 := hd.w0
      have h1 := hd.w1
      have hs0 := hd.s0
      have hs1 := hd.s1
      exact ⟨rfl, rfl, hd.inn, by simp only; omega, by simp only; omega, hd.r0, by have := hd.r1; simp only; omega, by simp only; split <;> omega, by simp only; split <;> omega, by have := hd.got; simp only; omega, by have := hd.told; simp only; omega⟩
    · exact ⟨rfl, rfl, hd.mono (by omega)⟩
theorem okN_shut {N : NS} {B : Int} (h : OkN N B) (c : Int) : OkN (shutN N c).1 B := h.on (by omega) fun d hd => by
  unfold shutD
  split
  · exact ⟨rfl, rfl, hd.inn, hd.w0, hd.w1, hd.r0, hd.r1, hd.s0, hd.s1, hd.got, hd.told⟩
  · exact ⟨rfl, rfl, hd⟩
theorem okN_send {N : NS} {B : Int} (h : OkN N B) (c : Int) (rows : List (List Int)) : OkN (sendN N c rows).1 (B + 1) := h.on (by omega) fun d hd => by
  unfold sendD
  have h0 := hd.r0
  have h1 := hd.r1
  split
  · split
    · exact ⟨rfl, rfl, hd.mono (by omega)⟩
    · exact ⟨rfl, rfl, by simp only [List.length_take]; omega, hd.w0, hd.w1, by simp only; split <;> omega, by simp only; split <;> omega, hd.s0, by have := hd.s1; simp only; omega, by have := hd.got; simp only; omega, by have := hd.told; simp only; omega⟩
  · exact ⟨rfl, rfl, hd.mono (by omega)⟩
theorem okN_read {N : NS} {B : Int} (h : OkN N B) (c most : Int) : OkN (readN N c most).1 (B + 1024) := by
  unfold readN
  split
  · exact h.mono (by omega)
  · refine h.on (by omega) fun d hd => ?_
    have h0 := hd.inn
    have h1 := hd.told
    unfold readD
    split
    · split
      · exact ⟨rfl, rfl, hd.mono (by omega)⟩
      · exact ⟨rfl, rfl, by simp only [List.length_drop]; omega, hd.w0, hd.w1, hd.r0, by have := hd.r1; simp only; omega, hd.s0, by have := hd.s1; simp only; omega, by have := hd.got; simp only; omega, by simp only [List.length_append, List.length_take]; omega⟩
    · exact ⟨rfl, rfl, hd.mono (by omega)⟩
theorem okN_write {N : NS} {B : Int} (h : OkN N B) (c : Int) (b : List Int) : OkN (writeN N c b).1 (B + b.length) := h.on (by omega) fun d hd => by
  have h0 := hd.w0
  have h1 := hd.w1
  have h2 := hd.got
  unfold writeD
  split
  · split
    · exact ⟨rfl, rfl, hd.mono (by omega)⟩
    · split
      · exact ⟨rfl, rfl, hd.mono (by omega)⟩
      · split
        · exact ⟨rfl, rfl, hd.mono (by omega)⟩
        · exact ⟨rfl, rfl, hd.inn, by simp only; omega, by simp only; omega, hd.r0, by have := hd.r1; simp only; omega, hd.s0, by have := hd.s1; simp only; omega, by simp only [List.length_append, List.length_take]; omega, by have := hd.told; simp only; omega⟩
  · exact ⟨rfl, rfl, hd.mono (by omega)⟩
theorem countP_open {l : List Cn} {i : Nat} {d d' : Cn} (h : l[i]? = some d) (h0 : d.opn = false) (h1 : d'.opn = true) : (l.set i d').countP (·.opn) = l.countP (·.opn) + 1 := by
  induction l generalizing i with
  | nil => simp at h
  | cons e l ih =>
    cases i with
    | zero =>
      simp at h
      subst h
      simp [h0, h1]
    | succ i =>
      simp only [List.set_cons_succ, List.countP_cons]
      rw [ih (by simpa using h)]
      omega
theorem countP_close {l : List Cn} {i : Nat} {d d' : Cn} (h : l[i]? = some d) (h0 : d.opn = true) (h1 : d'.opn = false) : (l.set i d').countP (·.opn) + 1 = l.countP (·.opn) := by
  induction l generalizing i with
  | nil => simp at h
  | cons e l ih =>
    cases i with
    | zero =>
      simp at h
      subst h
      simp [h0, h1]
    | succ i =>
      simp only [List.set_cons_succ, List.countP_cons]
      rw [← ih (by simpa using h)]
      omega
theorem okN_accept {N : NS} {B : Int} (h : OkN N B) : OkN (acceptN N).1 B := by
  unfold acceptN
  split
  · exact h
  · split
    · exact h
    · rename_i q rest hq
      split
      · exact ⟨h.b0, h.b1, h.ql, h.qn, h.qw, h.cl, by simp only; omega, by have := h.f1; simp only; omega, h.m0, h.m1, h.op, h.cn⟩
      · obtain ⟨d, hd, hw, ho⟩ := h.qw q (by rw [hq]; simp)
        rw [hd]
        simp only
        have hnd := h.qn
        rw [hq, List.nodup_cons] at hnd
        refine ⟨h.b0, h.b1, ?_, hnd.2, fun r hr => ?_, by simpa using h.cl, h.f0, h.f1, h.m0, h.m1, ?_, fun e he => ?_⟩
        · have := h.ql
          rw [hq] at this
          simp at this
          simp only
          omega
        · have hrq : r ≠ q := fun e => hnd.1 (e ▸ hr)
          obtain ⟨e, he, hw⟩ := h.qw r (by rw [hq]; exact List.mem_cons_of_mem _ hr)
          exact ⟨e, by simp only; rw [List.getElem?_set_ne (by omega)]; exact he, hw⟩
        · simp only
          rw [countP_open hd ho rfl, h.op]
          push_cast
          rfl
        · rcases mem_set he with he | rfl
          · exact h.cn e he
          · have := h.cn d (List.mem_of_getElem? hd)
            exact ⟨this.inn, this.w0, this.w1, this.r0, this.r1, this.s0, this.s1, this.got, this.told⟩
theorem okN_close1 {N : NS} {B : Int} (h : OkN N B) (c : Int) : OkN (close1 N c).1 B := by
  unfold close1
  split
  · exact h
  · rename_i i d hc
    split
    · rename_i ho
      unfold cnAt at hc
      split at hc
      · obtain ⟨d0, h0, h1⟩ := Option.map_eq_some_iff.1 hc
        injection h1 with h1 h2
        subst h1 h2
        refine ⟨h.b0, h.b1, h.ql, h.qn, fun q hq => ?_, by simpa using h.cl, h.f0, h.f1, h.m0, h.m1, ?_, fun e he => ?_⟩
        · obtain ⟨e, he, hw⟩ := h.qw q hq
          have hqi : q ≠ c.toNat := by
            rintro rfl
            rw [h0] at he
            injection he with he
            subst he
            rw [hw.2] at ho
            cases ho
          exact ⟨e, by simp only; rw [List.getElem?_set_ne (by omega)]; exact he, hw⟩
        · simp only
          have := countP_close (d' := { d0 with opn := false }) h0 ho rfl
          rw [h.op]
          omega
        · rcases mem_set he with he | rfl
          · exact h.cn e he
          · have := h.cn d0 (List.mem_of_getElem? h0)
            exact ⟨this.inn, this.w0, this.w1, this.r0, this.r1, this.s0, this.s1, this.got, this.told⟩
      · cases hc
    · exact h
theorem okN_close {N : NS} {B : Int} (l : List Int) (h : OkN N B) : OkN (closeN N l).1 B := by
  induction l generalizing N with
  | nil => exact h
  | cons c l ih => exact ih (okN_close1 h c)
theorem NDone.post_drewN {c : Cfg} {w w' : World} {n : Nat} {F : List Nat} {N : NS} (h : NDone c w n F N w') (k : Nat) : NDone c w n F N (w'.drewN k) := by
  obtain ⟨⟨F', h1, h2⟩, h3⟩ := h
  exact ⟨⟨F', h1.keeps ((Keeps.refl [] w').drewN k) (by simp), h2⟩, h3.drewN k⟩
theorem NDone.after {c : Cfg} {w w1 w' : World} {n : Nat} {F : List Nat} {own : Nat → Nat} {ps : List Nat} {vc vq : Value} {N N' : NS} (h : NAt c w1 n F own ps vc vq N) (hk : Keeps [] w w1) (hd : NDone c w1 n F N' w') : NDone c w n F N' w' := by
  obtain ⟨⟨F', h1, h2⟩, h3⟩ := hd
  refine ⟨⟨F', h1, fun k hk' => ?_⟩, (hk.mono (G := F) (by simp)).trans h3 (fun g hg => .inl hg)⟩
  · rcases h2 k hk' with e | e
    · exact .inl e
    · have := hk.size
      exact .inr (by omega)
/-! ### one connection's cells have changed -/
theorem NAt.cells {c : Cfg} {w w' : World} {n : Nat} {F : List Nat} {own : Nat → Nat} {ps : List Nat} {vc vq : Value} {N : NS} {i p : Nat} {d : Cn} {vi vo vt : Value} (h : NAt c w n F own ps vc vq N) (hp : ps[i]? = some p) (hd : N.cs[i]? = some d) (hc : CAt c w own i p d vi vo vt)
    (hk : Keeps [p] w w') (d' : Cn) (vi' : Value) (hl : c.nlay (N.upd i d') vc vq = c.nlay N vc vq) (hb : Blk w' p c.T (c.lay d' vi' vo vt)) (hvi : (vi' = vi ∧ d'.inn = d.inn) ∨ (vi' = .slice none 0 0 ∧ d'.inn = [])) (hg : d'.got = d.got) (ht : d'.told = d.told) :
    NDone c w n F (N.upd i d') w' := by
  obtain ⟨h1, h2, h3, h4, h5⟩ := hc
  have hnp : n ≠ p := fun e => by
    have := h.tn
    rw [e, h2] at this
    omega
  have hpF : p ∈ F := h.ftag p (by omega)
  refine ⟨h.put (G := [p]) (d' := d') (vi := vi') (vo := vo) (vt := vt) (vq' := vq) hp rfl hk ?_ h2 h1.lt ?_ ?_ hb ?_ ?_ ?_ ?_ ?_ ?_ ?_ ?_, hk.mono (by simp; exact hpF)⟩
  · intro k hk' _
    simp at hk'
    subst hk'
    omega
  · rw [hl]
    exact h.blk.keeps hk (by simpa using hnp)
  · exact h.rq.keeps hk (fun k e hx => by
      simp at hx
      subst hx
      have := h.oq k e
      omega)
  · rcases hvi with ⟨rfl, e⟩ | ⟨rfl, e⟩
    · rw [e]
      exact h3.1.keeps hk (fun k e hx => by
        simp at hx
        subst hx
        have := h3.2 k e
        omega)
    · rw [e]
      exact Row.nil _ _ _
  · rw [hg]
    exact h4.1.keeps hk (fun k e hx => by
      simp at hx
      subst hx
      have := h4.2 k e
      omega)
  · rw [ht]
    exact h5.1.keeps hk (fun k e hx => by
      simp at hx
      subst hx
      have := h5.2 k e
      omega)
  · intro k e
    rcases hvi with ⟨rfl, -⟩ | ⟨rfl, -⟩
    · exact .inl ⟨h3.1.lt k e, h3.2 k e⟩
    · simp [Value.ownBlock] at e
  · exact fun k e => .inl ⟨h4.1.lt k e, h4.2 k e⟩
  · exact fun k e => .inl ⟨h5.1.lt k e, h5.2 k e⟩
  · exact fun k e => .inl ⟨h.rq.lt k e, h.oq k e⟩
  · intro k hge
    have a := fun e => h4.1.lt k e
    have b := fun e => h5.1.lt k e
    refine ⟨fun e => ?_, fun e => ?_, fun e => ?_⟩
    · rcases hvi with ⟨rfl, -⟩ | ⟨rfl, -⟩
      · have := h3.1.lt k e
        omega
      · simp [Value.ownBlock] at e
    · have := a e
      omega
    · have := b e
      omega
end Go.Proofs.Ytkeffebcmajhmaa
