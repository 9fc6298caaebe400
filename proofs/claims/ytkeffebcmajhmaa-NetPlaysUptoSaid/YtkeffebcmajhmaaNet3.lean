/- The program's net: New, Connect, Inject, Len by contract. -/
import Derived.Test.YtkeffebcmajhmaaNet2
namespace Go.Proofs.Ytkeffebcmajhmaa
open Go.RowKit
set_option linter.unusedVariables false
structure CnOk (d : Cn) (B : Int) : Prop where
  inn : d.inn.length ≤ 1024
  w0 : 0 ≤ d.window
  w1 : d.window ≤ 1099511627776
  r0 : 0 ≤ d.reads
  r1 : d.reads ≤ B
  s0 : 0 ≤ d.writes
  s1 : d.writes ≤ B
  got : (d.got.length : Int) ≤ B
  told : (d.told.length : Int) ≤ B
structure OkN (N : NS) (B : Int) : Prop where
  b0 : 1 ≤ N.backlog
  b1 : N.backlog ≤ 64
  ql : (N.queue.length : Int) ≤ N.backlog
  qn : N.queue.Nodup
  qw : ∀ q ∈ N.queue, ∃ d, N.cs[q]? = some d ∧ d.waits = true ∧ d.opn = false
  cl : N.cs.length ≤ 65536
  f0 : 0 ≤ N.fails
  f1 : N.fails ≤ 9223372036854775807
  m0 : 0 ≤ N.marks
  m1 : N.marks ≤ B
  op : N.nopen = (N.cs.countP (·.opn) : Nat)
  cn : ∀ d ∈ N.cs, CnOk d B
theorem CnOk.mono {d : Cn} {B B' : Int} (h : CnOk d B) (hB : B ≤ B') : CnOk d B' :=
  ⟨h.inn, h.w0, h.w1, h.r0, Int.le_trans h.r1 hB, h.s0, Int.le_trans h.s1 hB, Int.le_trans h.got hB, Int.le_trans h.told hB⟩
theorem OkN.mono {N : NS} {B B' : Int} (h : OkN N B) (hB : B ≤ B') : OkN N B' :=
  ⟨h.b0, h.b1, h.ql, h.qn, h.qw, h.cl, h.f0, h.f1, h.m0, Int.le_trans h.m1 hB, h.op, fun d hd => (h.cn d hd).mono hB⟩
def newN (b : Int) : NS := ⟨b, [], [], false, 0, 0, 0⟩
def newCn (peer : Int) : Cn := ⟨true, false, false, peer, false, false, false, [], 0, 0, 0, [], []⟩
theorem okN_new (b : Int) (h1 : 1 ≤ b) (h2 : b ≤ 64) : OkN (newN b) 0 :=
  ⟨h1, h2, by simp [newN]; omega, by simp [newN], by simp [newN], by simp [newN], by simp [newN], by simp [newN], by simp [newN], by simp [newN], by simp [newN], by simp [newN]⟩
def connectN (N : NS) (peer : Int) : NS × Int × Int :=
  if peer < 0 ∨ 255 < peer then (N, 0, 1) else if N.stopped = true then (N, 0, 6) else if N.backlog ≤ N.queue.length ∨ 65536 ≤ N.cs.length then (N, 0, 3)
  else ({ N with cs := N.cs ++ [newCn peer], queue := N.queue ++ [N.cs.length], marks := N.marks + 1 }, N.cs.length, 0)
theorem okN_connect {N : NS} {B : Int} (h : OkN N B) (peer : Int) (hB : 0 ≤ B) : OkN (connectN N peer).1 (B + 1) := by
  unfold connectN
  split
  · exact h.mono (by omega)
  · split
    · exact h.mono (by omega)
    · split
      · exact h.mono (by omega)
      · rename_i h1 h2 h3
        refine ⟨h.b0, h.b1, ?_, ?_, ?_, ?_, h.f0, h.f1, ?_, ?_, ?_, ?_⟩
        · simp; omega
        · simp only
          rw [List.nodup_append]
          refine ⟨h.qn, by simp, ?_⟩
          intro a ha b hb
          simp at hb
          subst hb
          rintro rfl
          obtain ⟨d, hd, -⟩ := h.qw _ ha
          have := (List.getElem?_eq_some_iff.1 hd).1
          omega
        · intro q hq
          simp only [List.mem_append, List.mem_singleton] at hq
          rcases hq with hq | rfl
          · obtain ⟨d, hd, hw⟩ := h.qw q hq
            have hlt := (List.getElem?_eq_some_iff.1 hd).1
            exact ⟨d, by simp only; rw [List.getElem?_append_left hlt]; exact hd, hw⟩
          · exact ⟨newCn peer, by simp, rfl, rfl⟩
        · simp; omega
        · have := h.m0; simp only; omega
        · have := h.m1; simp only; omega
        · have := h.op
          simp [newCn, this]
        · intro d hd
          simp only [List.mem_append, List.mem_singleton] at hd
          rcases hd with hd | rfl
          · exact (h.cn d hd).mono (by omega)
          · exact ⟨by simp [newCn], by simp [newCn], by simp [newCn], by simp [newCn], by simp [newCn]; omega, by simp [newCn], by simp [newCn]; omega, by simp [newCn]; omega, by simp [newCn]; omega⟩
def injectN (N : NS) (k : Int) : NS := { N with fails := max 0 k }
theorem okN_inject {N : NS} {B : Int} (h : OkN N B) (k : Int) (hk : k ≤ 9223372036854775807) : OkN (injectN N k) B :=
  ⟨h.b0, h.b1, h.ql, h.qn, h.qw, h.cl, by simp [injectN]; omega, by simp [injectN]; omega, h.m0, h.m1, h.op, h.cn⟩
theorem nnew_bad (b : Int) (w : World) (h : b < 1 ∨ (1 ≤ b ∧ 64 < b)) :
    Calls Try.prog 34 #[.int .i64 b] w fun e w' => e = .returned (.tuple #[.pointer none, .int .i64 1]) ∧ w = w' := by
  rcases h with h | ⟨h0, h⟩
  all_goals
    go_enter Try.func34, Try.ntmps34
    go_wp2
    go_ret2
    exact ⟨rfl, rfl⟩
theorem nrep_new (c : Cfg) (w : World) (b : Int) (cs : Array Value) (h : cs = c.nlay (newN b) (.slice none 0 0) (.slice none 0 0)) : NRep c (w.alloc (.cells cs c.NT)) w.heap.size [w.heap.size] (newN b) := by
  refine ⟨fun k => if k = w.heap.size then 1 else 0, [], .slice none 0 0, .slice none 0 0, ?_⟩
  refine ⟨fun k hk => ?_, ?_, by simp, ?_, Row.nil _ _ _, by simp [Value.ownBlock], Row.nil _ _ _, by simp [Value.ownBlock], rfl, by simp [newN]⟩
  · split at hk
    · rename_i e; simp [e]
    · exact absurd rfl hk
  · simp
  · subst h
    exact Blk.new _ _ _
theorem nnew_ok (b : Int) (w : World) (h1 : 1 ≤ b) (h2 : b ≤ 64) :
    Calls Try.prog 34 #[.int .i64 b] w fun e w' => e = .returned (.tuple #[.pointer (some ⟨w.heap.size, 0, none⟩), .int .i64 0]) ∧ NRep pc w' w.heap.size [w.heap.size] (newN b) ∧ Keeps [] w w' := by
  have h1' : ¬ b < 1 := by omega
  have h2' : ¬ 64 < b := by omega
  go_enter Try.func34, Try.ntmps34
  go_wp2
  go_ret2
  exact ⟨rfl, nrep_new pc w b _ rfl, (Keeps.refl [] w).alloc _⟩
/-- what a call that changes the net leaves. -/
def NDone (c : Cfg) (w : World) (n : Nat) (F : List Nat) (N' : NS) (w' : World) : Prop := (∃ F', NRep c w' n F' N' ∧ LaterF F w F') ∧ Keeps F w w'
theorem NDone.same {c : Cfg} {w w' : World} {n : Nat} {F : List Nat} {N : NS} (h : NRep c w n F N) (hk : Keeps [] w w') : NDone c w n F N w' :=
  ⟨⟨F, h.keeps hk (by simp), fun k hk => .inl hk⟩, hk.mono (by simp)⟩
theorem NDone.pre {c : Cfg} {w w' : World} {n k : Nat} {F : List Nat} {N : NS} (h : NDone c (w.drewN k) n F N w') : NDone c w n F N w' := ⟨h.1, h.2.pre⟩
theorem nptr_info : (Try.prog.info? pc.PT).map (fun i => (i.zero, i.size, i.bytes)) = some (some (.pointer none), 1, 8) := by kernel_rfl
theorem int_info : (Try.prog.info? 3).map (fun i => (i.zero, i.size, i.bytes)) = some (some (.int .i64 0), 1, 8) := by kernel_rfl
theorem ptrsV_one (l : List Nat) : ∀ u ∈ ptrsV l, u.oneCell' = true := by
  intro u hu
  unfold ptrsV at hu
  obtain ⟨x, -, rfl⟩ := List.mem_map.1 hu
  rfl
theorem connect_done {w w5 w6 : World} {n : Nat} {F : List Nat} {own : Nat → Nat} {ps : List Nat} {vc vq v5 v6 : Value} {N : NS} {peer : Int} {o2 o3 : Obj} (h : NAt pc w n F own ps vc vq N)
    (hv5 : Row w5 pc.PT 1 v5 (N.cs.length + 1) (ptrsV ps ++ [.pointer (some ⟨w.heap.size, 0, none⟩)]))
    (hk5 : Keeps vc.ownBlock.toList ((w.alloc (.cells (pc.lay (newCn peer) (.slice none 0 0) (.slice none 0 0) (.slice none 0 0)) pc.T)).alloc o2) w5)
    (ho5 : ∀ k, v5.ownBlock = some k → vc.ownBlock = some k ∨ ((w.alloc (.cells (pc.lay (newCn peer) (.slice none 0 0) (.slice none 0 0) (.slice none 0 0)) pc.T)).alloc o2).heap.size ≤ k)
    (hv6 : Row w6 3 1 v6 (N.queue.length + 1) (natsV N.queue ++ [.int .i64 (N.cs.length : Int)]))
    (hk6 : Keeps vq.ownBlock.toList ((w5.setCell ⟨n, 1, none⟩ v5).alloc o3) w6)
    (ho6 : ∀ k, v6.ownBlock = some k → vq.ownBlock = some k ∨ ((w5.setCell ⟨n, 1, none⟩ v5).alloc o3).heap.size ≤ k) :
    NDone pc w n F { N with cs := N.cs ++ [newCn peer], queue := N.queue ++ [N.cs.length], marks := N.marks + 1 } ((w6.setCell ⟨n, 2, none⟩ v6).setCell ⟨n, 5, none⟩ (.int .i64 (N.marks + 1))) := by
  obtain ⟨W5, hW5⟩ : ∃ W, (w.alloc (.cells (pc.lay (newCn peer) (.slice none 0 0) (.slice none 0 0) (.slice none 0 0)) pc.T)).alloc o2 = W := ⟨_, rfl⟩
  have hz5 : W5.heap.size = w.heap.size + 2 := by rw [← hW5]; simp
  have hk05 : Keeps [] w W5 := by rw [← hW5]; exact ((Keeps.refl [] w).alloc _).alloc _
  have hbp : Blk W5 w.heap.size pc.T (pc.lay (newCn peer) (.slice none 0 0) (.slice none 0 0) (.slice none 0 0)) := by rw [← hW5]; exact (Blk.new w _ _).alloc _
  rw [hW5] at hk5 ho5
  have hz6 := hk5.size
  have hz7 := hk6.size
  simp [World.setCell] at hz7
  have hnl := h.blk.lt
  have nvc : n ∉ vc.ownBlock.toList := fun hx => by
    have := h.oc n (by simpa using hx)
    rw [h.tn] at this
    omega
  have nvq : n ∉ vq.ownBlock.toList := fun hx => by
    have := h.oq n (by simpa using hx)
    rw [h.tn] at this
    omega
  have lc : ∀ k, vc.ownBlock = some k → k < w.heap.size := h.rc.lt
  have lq : ∀ k, vq.ownBlock = some k → k < w.heap.size := h.rq.lt
  have b5 := (h.blk.keeps hk05 (by simp)).keeps hk5 nvc
  have b6 := ((b5.set_ 1 v5).alloc o3).keeps hk6 nvq
  have b7 := (b6.set_ 2 v6).set_ 5 (.int .i64 (N.marks + 1))
  have p5 := hbp.keeps hk5 (fun hx => by have := lc _ (by simpa using hx); omega)
  have pne : w.heap.size ≠ n := by omega
  have p6 := ((p5.far (p := ⟨n, 1, none⟩) pne v5).alloc o3).keeps hk6 (fun hx => by have := lq _ (by simpa using hx); omega)
  have p7 := (p6.far (p := ⟨n, 2, none⟩) pne v6).far (p := ⟨n, 5, none⟩) pne (.int .i64 (N.marks + 1))
  have r5 := hv5.far (p := ⟨n, 1, none⟩) (fun k e => hv5.blk_ne b5 (by decide) k e) v5
  have q0 : Row ((w5.setCell ⟨n, 1, none⟩ v5).alloc o3) 3 1 vq N.queue.length (natsV N.queue) := by
    have h1 := (h.rq.keeps hk05 (by simp)).keeps hk5 (fun k e hx => by
      have a := h.oq k e
      have b := h.oc k (by simpa using hx)
      omega)
    exact (h1.far (p := ⟨n, 1, none⟩) (fun k e => h1.blk_ne b5 (by decide) k e) v5).alloc o3
  have cq : ∀ k, v5.ownBlock = some k → vq.ownBlock ≠ some k := (r5.alloc o3).disj q0 (by decide)
  have r6 := (r5.alloc o3).keeps hk6 (fun k e hx => cq k e (by simpa using hx))
  have r7 := (r6.far (p := ⟨n, 2, none⟩) (fun k e => r6.blk_ne b6 (by decide) k e) v6)
  have r8 := (r7.far (p := ⟨n, 5, none⟩) (fun k e => r7.blk_ne (b6.set_ 2 v6) (by decide) k e) (.int .i64 (N.marks + 1)))
  have q6 := hv6.far (p := ⟨n, 2, none⟩) (fun k e => hv6.blk_ne b6 (by decide) k e) v6
  have q7 := q6.far (p := ⟨n, 5, none⟩) (fun k e => q6.blk_ne (b6.set_ 2 v6) (by decide) k e) (.int .i64 (N.marks + 1))
  have K5 : Keeps (n :: (vc.ownBlock.toList ++ vq.ownBlock.toList)) w w5 := (hk05.mono (by simp)).trans hk5 (fun g hg => .inl (by simp at hg; simp [hg]))
  have K6 : Keeps (n :: (vc.ownBlock.toList ++ vq.ownBlock.toList)) w w6 := ((K5.setCell (p := ⟨n, 1, none⟩) (.inl (by simp)) v5).alloc o3).trans hk6 (fun g hg => .inl (by simp at hg; simp [hg]))
  have K7 := (K6.setCell (p := ⟨n, 2, none⟩) (.inl (by simp)) v6).setCell (p := ⟨n, 5, none⟩) (.inl (by simp)) (.int .i64 (N.marks + 1))
  have hnF : n ∈ F := h.ftag n (by rw [h.tn]; omega)
  refine ⟨h.push (G := n :: (vc.ownBlock.toList ++ vq.ownBlock.toList)) (p := w.heap.size) (d := newCn peer) (vc' := v5) (vq' := v6) (by rfl) K7 ?_ (Nat.le_refl _) ?_ ?_ ?_ p7 ⟨rfl, rfl, rfl⟩ ?_ ?_ ⟨?_, ?_, ?_⟩, ?_⟩
  · intro k hk _
    simp only [List.mem_cons, List.mem_append, Option.mem_toList] at hk
    rcases hk with rfl | e | e
    · exact .inl h.tn
    · exact .inr (.inl (h.oc k e))
    · exact .inr (.inr (h.oq k e))
  · simpa [pc] using b7
  · simpa [ptrsV, h.len] using r8
  · simpa [natsV] using q7
  · intro k e
    rcases ho5 k e with h1 | h1
    · exact .inl ⟨lc k h1, h.oc k h1⟩
    · exact .inr (by omega)
  · intro k e
    rcases ho6 k e with h1 | h1
    · exact .inl ⟨lq k h1, h.oq k h1⟩
    · simp [World.setCell] at h1
      exact .inr (by omega)
  · intro e
    rcases ho5 _ e with h1 | h1
    · have := lc _ h1
      omega
    · omega
  · intro e
    rcases ho6 _ e with h1 | h1
    · have := lq _ h1
      omega
    · simp [World.setCell] at h1
      omega
  · exact fun k _ e => r8.disj q7 (by decide) k e
  · refine K7.mono (fun g hg => ?_)
    simp only [List.mem_cons, List.mem_append, Option.mem_toList] at hg
    rcases hg with rfl | e | e
    · exact hnF
    · exact h.ftag g (by rw [h.oc g e]; omega)
    · exact h.ftag g (by rw [h.oq g e]; omega)
end Go.Proofs.Ytkeffebcmajhmaa
