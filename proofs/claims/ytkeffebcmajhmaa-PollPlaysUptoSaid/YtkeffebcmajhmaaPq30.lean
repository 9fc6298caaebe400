/- The reference's poller: Change by contract. -/
import Derived.Test.YtkeffebcmajhmaaPq29
import Derived.Test.YtkeffebcmajhmaaPq27
import Derived.Test.YtkeffebcmajhmaaPq26
import Derived.Test.YtkeffebcmajhmaaPq10
namespace Go.Proofs.Ytkeffebcmajhmaa
open Go.RowKit
set_option linter.unusedVariables false
set_option linter.unusedSimpArgs false
def chgR (a b : Bool) (d : Wd) : Wd := { d with rd := a, wr := b, tr := -1, tm := -1 }
def RChangePost (w : World) (xb n : Nat) (F : List Nat) (N : NS) (L : List Slot) (c : Int) (D : Nat → Wd) (h : Int × Int) (a b : Bool) (e : Ending) (w' : World) : Prop :=
  (live L h.1 h.2 = none ∧ e = .returned (.int .i64 10) ∧ Keeps [] w w') ∨ (∃ k v, live L h.1 h.2 = some (k, v) ∧ e = .returned (.int .i64 0) ∧ RPRep w' xb n F N L c (updD D k (chgR a b (D k))) ∧ Keeps F w w')
theorem RPAt.upd {w w' : World} {xb n s m : Nat} {Fn Fs W : List Nat} {N : NS} {L : List Slot} {c : Int} {f : Int → Option Nat} {D : Nat → Wd} {k p : Nat} {d : Wd} (h : RPAt w xb n s m Fn Fs W N L c f D) (hf : f k = some p) (hd : d.id = (D k).id) (hk : Keeps [p] w w') (hb : Blk w' p 173 (wcells d)) : RPAt w' xb n s m Fn Fs W N L c f (updD D k d) := by
  have hpW := h.fw _ _ hf
  obtain ⟨w1, w2, w3⟩ := h.wl p hpW
  refine ⟨h.blk.keeps hk (by simpa using Ne.symm w2), h.net.keeps hk (fun j hj hx => ?_), h.slab.keeps hk (fun j hj hx => ?_), h.map.keeps hk (by simpa using Ne.symm w3), fun j g v hL => ?_, h.inj, h.fw, fun q hq => ?_, h.d1, h.d2⟩
  · simp at hx
    subst hx
    exact (h.d1 _ hj).2.2.2 hpW
  · simp at hx
    subst hx
    exact (h.d2 _ hj).2.2 hpW
  · obtain ⟨q, g1, g2, g3⟩ := h.at_ j g v hL
    by_cases hjk : j = k
    · subst hjk
      rw [hf] at g1
      injection g1 with g1
      subst g1
      exact ⟨p, hf, by simpa [updD] using hb, by simpa [updD, hd] using g3⟩
    · refine ⟨q, g1, ?_, by simpa [updD, hjk] using g3⟩
      simp only [updD, if_neg hjk]
      refine g2.keeps hk (fun hx => hjk ?_)
      simp at hx
      subst hx
      have := h.inj _ _ _ g1 hf
      omega
  · obtain ⟨g1, g2⟩ := h.wl q hq
    exact ⟨Nat.lt_of_lt_of_le g1 hk.size, g2⟩
set_option maxRecDepth 100000 in
set_option maxHeartbeats 4000000 in
theorem rchange_any (xb n : Nat) (F : List Nat) (N : NS) (L : List Slot) (c : Int) (D : Nat → Wd) (i g : Int) (a b : Bool) (w : World) (h : RPRep w xb n F N L c D) :
    Calls Try.prog 99 #[.pointer (some ⟨xb, 0, none⟩), .agg #[.int .i64 i, .int .i64 g], .bool a, .bool b] w (RChangePost w xb n F N L c D (i, g) a b) := by
  obtain ⟨s, m, Fn, Fs, W, f, h, rfl⟩ := h
  have H := hid h
  have p1 := h.blk.cell 1
  have p2 := h.blk.cell 2
  simp [pcells] at p1 p2
  have q1 := fun o => alloc_cell p1 o
  have hb := Blk.new w 30 #[.int .i64 i, .int .i64 g]
  have HB := hid hb
  clear h hb
  obtain ⟨y, hy⟩ : ∃ y, live L i g = y := ⟨_, rfl⟩
  obtain ⟨POST, hPOST⟩ : ∃ P, RChangePost w xb n (xb :: m :: (Fn ++ (Fs ++ W))) N L c D (i, g) a b = P := ⟨_, rfl⟩
  rw [hPOST]
  have HP := hid hPOST
  have HY := hid hy
  clear hPOST hy
  go_enter Try.func99, Try.ntmps99
  go_wp2_with fail
  have e1 := q1 (.cells #[.int .i64 i, .int .i64 g] 30)
  obtain ⟨wA, hwA⟩ : ∃ x, w.alloc (.cells #[.int .i64 i, .int .i64 g] 30) = x := ⟨_, rfl⟩
  have hkA : Keeps [] w wA := by rw [← hwA]; exact (Keeps.refl [] w).alloc _
  have HKA := hid hkA
  rw [hwA] at HB e1 ⊢
  have b0 := HB.out.cell 0
  have b1 := HB.out.cell 1
  simp at b0 b1
  clear hwA hkA q1
  have hzA : w.heap.size < wA.heap.size := HB.out.lt
  obtain ⟨S, hSe⟩ : ∃ S : World → Prop, ∀ w', S w' ↔ (w'.cell? ⟨xb, 1, none⟩ = some (.pointer (some ⟨s, 0, none⟩)) ∧ w'.cell? ⟨w.heap.size, 0, none⟩ = some (.int .i64 i) ∧ w'.cell? ⟨w.heap.size, 1, none⟩ = some (.int .i64 g)) := ⟨_, fun _ => Iff.rfl⟩
  have hSw1 : S wA.drew := (hSe _).2 ⟨e1, b0, b1⟩
  refine wp_region_held_drew (S := S) (by kernel_rfl) hSw1 (fun hHeld => ?_)
  refine wpAnyH_take (i := 0) (v := ?_) rfl (by kernel_rfl) (by kernel_rfl) (by kernel_rfl) (fun _ _ _ h => h) ?_ (by assumption) ?_
  rotate_left 1
  · first | (apply Or.inl; constructor; rfl; intro Wx hSw; obtain ⟨s1_, s2_, s3_⟩ := (hSe _).1 hSw; go_simp; try (with_reducible rfl)) | (apply Or.inr; constructor; rfl; rfl)
  try simp only [Act.put, List.getElem_toArray, List.getElem_cons_succ, List.getElem_cons_zero, List.setIfInBounds_toArray, List.set_cons_zero, List.set_cons_succ]
  refine wpAnyH_take (i := 1) (v := ?_) rfl (by kernel_rfl) (by kernel_rfl) (by kernel_rfl) (fun _ _ _ h => h) ?_ (by assumption) ?_
  rotate_left 1
  · first | (apply Or.inl; constructor; rfl; intro Wx hSw; obtain ⟨s1_, s2_, s3_⟩ := (hSe _).1 hSw; go_simp; try (with_reducible rfl)) | (apply Or.inr; constructor; rfl; rfl)
  try simp only [Act.put, List.getElem_toArray, List.getElem_cons_succ, List.getElem_cons_zero, List.setIfInBounds_toArray, List.set_cons_zero, List.set_cons_succ]
  refine wpAnyH_take (i := 2) (v := ?_) rfl (by kernel_rfl) (by kernel_rfl) (by kernel_rfl) (fun _ _ _ h => h) ?_ (by assumption) ?_
  rotate_left 1
  · first | (apply Or.inl; constructor; rfl; intro Wx hSw; obtain ⟨s1_, s2_, s3_⟩ := (hSe _).1 hSw; go_simp; try (with_reducible rfl)) | (apply Or.inr; constructor; rfl; rfl)
  try simp only [Act.put, List.getElem_toArray, List.getElem_cons_succ, List.getElem_cons_zero, List.setIfInBounds_toArray, List.set_cons_zero, List.set_cons_succ]
  refine wpAnyH_take (i := 3) (v := ?_) rfl (by kernel_rfl) (by kernel_rfl) (by kernel_rfl) (fun _ _ _ h => h) ?_ (by assumption) ?_
  rotate_left 1
  · first | (apply Or.inl; constructor; rfl; intro Wx hSw; obtain ⟨s1_, s2_, s3_⟩ := (hSe _).1 hSw; go_simp; try (with_reducible rfl)) | (apply Or.inr; constructor; rfl; rfl)
  try simp only [Act.put, List.getElem_toArray, List.getElem_cons_succ, List.getElem_cons_zero, List.setIfInBounds_toArray, List.set_cons_zero, List.set_cons_succ]
  refine wpAnyH_take (i := 4) (v := ?_) rfl (by kernel_rfl) (by kernel_rfl) (by kernel_rfl) (fun _ _ _ h => h) ?_ (by assumption) ?_
  rotate_left 1
  · first | (apply Or.inl; constructor; rfl; intro Wx hSw; obtain ⟨s1_, s2_, s3_⟩ := (hSe _).1 hSw; go_simp; try (with_reducible rfl)) | (apply Or.inr; constructor; rfl; rfl)
  try simp only [Act.put, List.getElem_toArray, List.getElem_cons_succ, List.getElem_cons_zero, List.setIfInBounds_toArray, List.set_cons_zero, List.set_cons_succ]
  refine wpAnyH_ready (rs := [5]) (by kernel_rfl) (by simp) ?_
  refine AllReadyH.cons rfl (fun K hK => ?_) AllReadyH.nil
  go_simp
  cases y with
  | none =>
    refine (ris_dead s Fs 4096 c L i g _ (H.out.slab.keeps HKA.out.drew (by simp)) HY.out).mono ?_
    rintro e w1 ⟨rfl, hk1⟩
    have hk1' : Keeps [] wA w1 := (Keeps.refl [] wA).drew.trans hk1 (by simp)
    refine hK.out _ _ ((hSe _).2 ⟨cell_keep hk1' (by simp) e1, cell_keep hk1' (by simp) b0, cell_keep hk1' (by simp) b1⟩) (fun hHeld => ?_)
    clear hK K
    refine wpAnyH_take (i := 6) (v := ?_) rfl (by kernel_rfl) (by kernel_rfl) (by kernel_rfl) (fun _ _ _ h => h) ?_ (by assumption) ?_
    rotate_left 1
    · first | (apply Or.inl; constructor; rfl; intro Wx hSw; obtain ⟨s1_, s2_, s3_⟩ := (hSe _).1 hSw; go_simp; try (with_reducible rfl)) | (apply Or.inr; constructor; rfl; rfl)
    try simp only [Act.put, List.getElem_toArray, List.getElem_cons_succ, List.getElem_cons_zero, List.setIfInBounds_toArray, List.set_cons_zero, List.set_cons_succ]
    refine wpAnyH_done (by kernel_rfl) ?_ _
    have HK1 := hid hk1'
    clear hk1 hk1'
    go_wp2_with fail
    rw [← HP.out]
    exact .inl ⟨HY.out, rfl, HKA.out.trans HK1.out (by simp)⟩
  | some kv =>
    obtain ⟨k, v⟩ := kv
    obtain ⟨hik, hLk⟩ := live_some HY.out
    subst hik
    obtain ⟨p, hf, hbp, hid1⟩ := H.out.at_ k g v hLk
    refine (ris_live s Fs 4096 c L k g v _ (H.out.slab.keeps HKA.out.drew (by simp)) hLk).mono ?_
    rintro e w1 ⟨rfl, hk1⟩
    have hk1' : Keeps [] wA w1 := (Keeps.refl [] wA).drew.trans hk1 (by simp)
    refine hK.out _ _ ((hSe _).2 ⟨cell_keep hk1' (by simp) e1, cell_keep hk1' (by simp) b0, cell_keep hk1' (by simp) b1⟩) (fun hHeld => ?_)
    clear hK K
    refine wpAnyH_take (i := 6) (v := ?_) rfl (by kernel_rfl) (by kernel_rfl) (by kernel_rfl) (fun _ _ _ h => h) ?_ (by assumption) ?_
    rotate_left 1
    · first | (apply Or.inl; constructor; rfl; intro Wx hSw; obtain ⟨s1_, s2_, s3_⟩ := (hSe _).1 hSw; go_simp; try (with_reducible rfl)) | (apply Or.inr; constructor; rfl; rfl)
    try simp only [Act.put, List.getElem_toArray, List.getElem_cons_succ, List.getElem_cons_zero, List.setIfInBounds_toArray, List.set_cons_zero, List.set_cons_succ]
    refine wpAnyH_done (by kernel_rfl) ?_ _
    have HK1 := hid hk1'
    have hkw := HKA.out.trans hk1' (by simp)
    have HKW := hid hkw
    have HF := hid hf
    have HLK := hid hLk
    have hbq := hbp.keeps hkw (by simp)
    have HBQ := hid hbq
    have e2 := cell_keep hkw (by simp) p2
    have b0' := cell_keep hk1' (by simp) b0
    have hlk : ∀ (j : Nat), (Instr.lookup 127 (.map (some m)) (.int .i64 k) false).run Try.prog (w1.drewN j) = .ok (.pointer (some ⟨p, 0, none⟩)) (w1.drewN j) := fun j => by
      have := run_lookI (H.out.map.keeps (hkw.drewN j) (by simp)) (k : Int)
      rw [hf] at this
      exact this
    have hff := hbq.frozen
    have f1 := hff 1
    have f2 := hff 2
    have f4 := hff 4
    have f5 := hff 5
    have c1 := hbq.cell 1
    have c2 := hbq.cell 2
    have c4 := hbq.cell 4
    have c5 := hbq.cell 5
    simp [wcells] at c1 c2 c4 c5
    clear hk1 hk1' hkw hf hLk hbq hbp hid1 hff hSw1 hSe hHeld b0 b1 e1 p1 p2
    go_wp2_with fail
    go_quiet (fail)
    go_wp2_with fail
    rw [← HP.out]
    have hpW := H.out.fw _ _ HF.out
    refine .inr ⟨k, v, HY.out, rfl, ⟨s, m, Fn, Fs, W, f, ?_, rfl⟩, ?_⟩
    · refine (H.out.next HKW.out).upd HF.out rfl ?_ ?_
      · (repeat (first | exact Keeps.refl _ _ | exact .inl (by simp) | apply Keeps.drewN | apply Keeps.drew | apply Keeps.setCell))
      · exact pblk_eq (((((HBQ.out.drewN _).set_ 1 (.bool a)).set_ 2 (.bool b)).set_ 4 (.int .i64 (-1))).set_ 5 (.int .i64 (-1))) (by simp [wcells, chgR])
    · have hmem : p ∈ xb :: m :: (Fn ++ (Fs ++ W)) := by simp [hpW]
      (repeat (first | exact HKW.out.mono (by simp) | exact .inl hmem | apply Keeps.drewN | apply Keeps.drew | apply Keeps.setCell))
end Go.Proofs.Ytkeffebcmajhmaa
/- The reference's poller: what Wait tells, in plain words. -/
namespace Go.Proofs.Ytkeffebcmajhmaa
open Go.RowKit
set_option linter.unusedVariables false
set_option linter.unusedSimpArgs false
def toldR (N : NS) (d : Wd) : Bool × Bool × Wd :=
  ((readyN N d.id).1 && d.rd && (!d.ed || decide (d.tr < (marksN N d.id).1)), (readyN N d.id).2 && d.wr && (!d.ed || decide (d.tm < (marksN N d.id).2)),
    { d with tr := if ((readyN N d.id).1 && d.rd && (!d.ed || decide (d.tr < (marksN N d.id).1))) = true then (marksN N d.id).1 else d.tr, tm := if ((readyN N d.id).2 && d.wr && (!d.ed || decide (d.tm < (marksN N d.id).2))) = true then (marksN N d.id).2 else d.tm })
def evOfR (N : NS) (h : Int × Int) (d : Wd) : List Ev := if ((toldR N d).1 || (toldR N d).2.1) = true then [(h, d.id, (toldR N d).1, (toldR N d).2.1)] else []
def evAtR (N : NS) (D : Nat → Wd) (h : Int × Int) : List Ev := evOfR N h (D h.1.toNat)
def evsR (N : NS) (L : List Slot) (D : Nat → Wd) : List Ev := (allFrom 0 L).flatMap (evAtR N D)
def toldRD (N : NS) (D : Nat → Wd) : Nat → Wd := fun k => (toldR N (D k)).2.2
/-- when the first k Handles are through. -/
def stD (N : NS) (hs : List (Int × Int)) (D : Nat → Wd) (k : Nat) : Nat → Wd := fun j => if (j : Int) ∈ (hs.take k).map (·.1) then (toldR N (D j)).2.2 else D j
theorem stD_zero (N : NS) (hs : List (Int × Int)) (D : Nat → Wd) : stD N hs D 0 = D := by
  funext j
  simp [stD]
theorem stD_step {N : NS} {hs : List (Int × Int)} {D : Nat → Wd} {k j : Nat} {g : Int} (h : hs[k]? = some ((j : Int), g)) : updD (stD N hs D k) j (toldR N (D j)).2.2 = stD N hs D (k + 1) := by
  funext i
  unfold updD stD
  rw [List.take_add_one, h]
  by_cases hij : i = j
  · subst hij
    simp
  · have : ¬ (i : Int) = j := by omega
    simp [hij, this]
theorem stD_out {N : NS} {hs : List (Int × Int)} {D : Nat → Wd} {k j : Nat} {g : Int} (h : hs[k]? = some ((j : Int), g)) (hn : (hs.map (·.1)).Nodup) : stD N hs D k j = D j := by
  unfold stD
  rw [if_neg]
  intro hx
  rw [List.map_take] at hx
  exact take_not hn (k := k) (by simp [h]) hx
def RWaitPost (w : World) (xb n : Nat) (F : List Nat) (N : NS) (L : List Slot) (c : Int) (D : Nat → Wd) (ps : List Int) (e : Ending) (w' : World) : Prop :=
  ∃ v, e = .returned v ∧ EvIn w' F v (pickE ps (evsR N L D)) ∧ RPRep w' xb n F N L c (toldRD N D) ∧ Keeps F w w' ∧ ∀ k, v.ownBlock = some k → w.heap.size ≤ k
end Go.Proofs.Ytkeffebcmajhmaa
/- PollPlays, plain words: what is ready was marked; both pollers tell the same. -/
namespace Go.Proofs.Ytkeffebcmajhmaa
open Go.RowKit
set_option linter.unusedVariables false
set_option linter.unusedSimpArgs false
/-- what of a connection is ready was marked. -/
def MC (d : Cn) : Prop := (d.waits = true ∨ d.opn = true) → (d.inn ≠ [] ∨ d.halved = true ∨ d.broken = true → 1 ≤ d.reads) ∧ (0 < d.window ∨ d.broken = true → 1 ≤ d.writes)
def MarkOk (N : NS) : Prop := (N.queue ≠ [] → 1 ≤ N.marks) ∧ ∀ d ∈ N.cs, MC d
theorem markOk_new (b : Int) : MarkOk (newN b) := ⟨fun h => absurd rfl h, by simp [newN]⟩
theorem MarkOk.on {α : Type} {N : NS} {B : Int} {c : Int} {f : Cn → Cn × α} {x : α} (h : MarkOk N) (hO : OkN N B) (hf : ∀ d, CnOk d B → MC d → MC (f d).1) : MarkOk (onConn N c f x).1 := by
  unfold onConn
  split
  · exact h
  · rename_i i d hc
    unfold cnAt at hc
    split at hc
    · obtain ⟨d0, h0, h1⟩ := Option.map_eq_some_iff.1 hc
      injection h1 with h1 h2
      subst h1 h2
      refine ⟨h.1, fun e he => ?_⟩
      rcases mem_set he with he | rfl
      · exact h.2 e he
      · have hm := List.mem_of_getElem? h0
        exact hf _ (hO.cn _ hm) (h.2 _ hm)
    · cases hc
theorem mc_half (d : Cn) {B : Int} (hC : CnOk d B) (h : MC d) : MC (halfD d).1 := by
  unfold halfD
  have := hC.r0
  split
  · split
    · exact h
    · intro hw
      exact ⟨fun _ => by simp only; omega, (h hw).2⟩
  · exact h
theorem mc_reset (d : Cn) {B : Int} (hC : CnOk d B) (h : MC d) : MC (resetD d).1 := by
  unfold resetD
  have := hC.r0
  have := hC.s0
  split
  · intro hw
    exact ⟨fun _ => by simp only; omega, fun _ => by simp only; omega⟩
  · exact h
theorem mc_open (b : Int) (hb : 0 ≤ b) (d : Cn) {B : Int} (hC : CnOk d B) (h : MC d) : MC (openD b d).1 := by
  unfold openD
  have := hC.s0
  have := hC.w1
  split
  · intro hw
    refine ⟨(h hw).1, fun hx => ?_⟩
    simp only at hx ⊢
    split
    · omega
    · refine (h hw).2 ?_
      rcases hx with hx | hx
      · left; omega
      · exact .inr hx
  · exact h
theorem mc_shut (d : Cn) (h : MC d) : MC (shutD d).1 := by
  unfold shutD
  split
  · exact h
  · exact h
theorem mc_send (rows : List (List Int)) (d : Cn) {B : Int} (hC : CnOk d B) (h : MC d) : MC (sendD rows d).1 := by
  unfold sendD
  have := hC.r0
  have := hC.inn
  split
  · split
    · exact h
    · intro hw
      refine ⟨fun hx => ?_, (h hw).2⟩
      simp only at hx ⊢
      split
      · omega
      · rename_i hn
        refine (h hw).1 ?_
        rcases hx with hx | hx
        · left
          rintro he
          rw [he] at hx hn
          simp only [List.nil_append, List.length_nil] at hx hn
          exact hx (List.eq_nil_of_length_eq_zero (by omega))
        · exact .inr hx
  · exact h
theorem mc_read (m : Nat) (d : Cn) (h : MC d) : MC (readD m d).1 := by
  unfold readD
  split
  · split
    · exact h
    · intro hw
      refine ⟨fun hx => (h hw).1 ?_, (h hw).2⟩
      simp only at hx
      rcases hx with hx | hx
      · left
        rintro he
        rw [he] at hx
        simp at hx
      · exact .inr hx
  · exact h
theorem mc_write (b : List Int) (d : Cn) (h : MC d) : MC (writeD b d).1 := by
  unfold writeD
  split
  · split
    · exact h
    · split
      · exact h
      · split
        · exact h
        · intro hw
          refine ⟨(h hw).1, fun hx => (h hw).2 ?_⟩
          simp only at hx
          rcases hx with hx | hx
          · left; omega
          · exact .inr hx
  · exact h
section
variable {N : NS} {B : Int}
theorem mk_connect (h : MarkOk N) (hO : OkN N B) (p : Int) : MarkOk (connectN N p).1 := by
  unfold connectN
  have := hO.m0
  split
  · exact h
  · split
    · exact h
    · split
      · exact h
      · refine ⟨fun _ => by simp only; omega, fun d hd => ?_⟩
        simp only [List.mem_append, List.mem_singleton] at hd
        rcases hd with hd | rfl
        · exact h.2 d hd
        · intro _
          simp [newCn]
theorem mk_half (h : MarkOk N) (hO : OkN N B) (c : Int) : MarkOk (halfN N c).1 := h.on hO fun d hC hm => mc_half d hC hm
theorem mk_reset (h : MarkOk N) (hO : OkN N B) (c : Int) : MarkOk (resetN N c).1 := h.on hO fun d hC hm => mc_reset d hC hm
theorem mk_open (h : MarkOk N) (hO : OkN N B) (c b : Int) : MarkOk (openN N c b).1 := by
  unfold openN
  split
  · exact h
  · exact h.on hO fun d hC hm => mc_open b (by omega) d hC hm
theorem mk_shut (h : MarkOk N) (hO : OkN N B) (c : Int) : MarkOk (shutN N c).1 := h.on hO fun d hC hm => mc_shut d hm
theorem mk_send (h : MarkOk N) (hO : OkN N B) (c : Int) (r : List (List Int)) : MarkOk (sendN N c r).1 := h.on hO fun d hC hm => mc_send r d hC hm
theorem mk_read (h : MarkOk N) (hO : OkN N B) (c m : Int) : MarkOk (readN N c m).1 := by
  unfold readN
  split
  · exact h
  · exact h.on hO fun d hC hm => mc_read _ d hm
theorem mk_write (h : MarkOk N) (hO : OkN N B) (c : Int) (b : List Int) : MarkOk (writeN N c b).1 := h.on hO fun d hC hm => mc_write b d hm
theorem mk_accept (h : MarkOk N) (hO : OkN N B) : MarkOk (acceptN N).1 := by
  unfold acceptN
  split
  · exact h
  · split
    · exact h
    · rename_i q rest hq
      split
      · exact ⟨fun hx => h.1 (by rw [hq]; simp), h.2⟩
      · obtain ⟨d, hd, hw, -⟩ := hO.qw q (by rw [hq]; simp)
        rw [hd]
        refine ⟨fun hx => h.1 (by rw [hq]; simp), fun e he => ?_⟩
        rcases mem_set he with he | rfl
        · exact h.2 e he
        · intro _
          exact h.2 d (List.mem_of_getElem? hd) (.inl hw)
theorem mk_close1 (h : MarkOk N) (c : Int) : MarkOk (close1 N c).1 := by
  unfold close1
  split
  · exact h
  · rename_i i d hc
    split
    · rename_i ho
      unfold cnAt at hc
      split at hc
      · obtain ⟨d0, h0, h1⟩ := Option.map_eq_some_iff.1 hc
        injection h1 with h1 h2
        subst h1 h2
        refine ⟨h.1, fun e he => ?_⟩
        rcases mem_set he with he | rfl
        · exact h.2 e he
        · intro _
          exact (show MC d0 from h.2 d0 (List.mem_of_getElem? h0)) (.inr ho)
      · cases hc
    · exact h
theorem mk_close (l : List Int) : ∀ {N : NS}, MarkOk N → MarkOk (closeN N l).1 := by
  induction l with
  | nil => intro N h; exact h
  | cons c l ih => intro N h; exact ih (mk_close1 h c)
theorem mk_stopGo : ∀ (l : List Nat) (N : NS), (∀ d ∈ N.cs, MC d) → (∀ q ∈ l, ∀ d, N.cs[q]? = some d → d.opn = false) → ∀ d ∈ (l.foldl stop1 N).cs, MC d
  | [], N, h, _ => h
  | q :: l, N, h, hq => by
    rw [List.foldl_cons]
    refine mk_stopGo l (stop1 N q) ?_ ?_
    · intro d hd
      unfold stop1 at hd
      split at hd
      · exact h d hd
      · rename_i e he
        rcases mem_set hd with hd | rfl
        · exact h d hd
        · intro hw
          have := hq q (by simp) e he
          simp [this] at hw
    · intro r hr d hd
      unfold stop1 at hd
      split at hd
      · exact hq r (by simp [hr]) d hd
      · rename_i e he
        simp only [NS.upd] at hd
        by_cases hrq : q = r
        · subst hrq
          rw [List.getElem?_set_self (List.getElem?_eq_some_iff.1 he).1] at hd
          injection hd with hd
          subst hd
          exact hq q (by simp) e he
        · rw [List.getElem?_set_ne hrq] at hd
          exact hq r (by simp [hr]) d hd
theorem mk_stop (h : MarkOk N) (hO : OkN N B) : MarkOk (stopN N) := by
  refine ⟨fun hx => absurd rfl hx, ?_⟩
  refine mk_stopGo N.queue { N with stopped := true } h.2 (fun q hq d hd => ?_)
  obtain ⟨e, he, -, ho⟩ := hO.qw q hq
  simp only at hd
  rw [he] at hd
  injection hd with hd
  rw [← hd]
  exact ho
theorem mark_ready (h : MarkOk N) (c : Int) : ((readyN N c).1 = true → 1 ≤ (marksN N c).1) ∧ ((readyN N c).2 = true → 1 ≤ (marksN N c).2) := by
  unfold readyN marksN
  split
  · refine ⟨fun hx => h.1 (fun he => ?_), fun hx => by cases hx⟩
    rw [he] at hx
    simp at hx
  · cases hc : cnAt N c with
    | none => exact ⟨fun hx => (by cases hx), fun hx => (by cases hx)⟩
    | some p =>
      obtain ⟨i, d⟩ := p
      unfold cnAt at hc
      split at hc
      · obtain ⟨d0, h0, h1⟩ := Option.map_eq_some_iff.1 hc
        injection h1 with h1 h2
        subst h1 h2
        simp only
        split
        · rename_i ho
          have hm := h.2 _ (List.mem_of_getElem? h0) (.inr ho)
          refine ⟨fun hx => hm.1 ?_, fun hx => hm.2 ?_⟩
          · simp only [Bool.or_eq_true, decide_eq_true_eq] at hx
            rcases hx with (hx | hx) | hx
            · exact .inl (fun he => by rw [he] at hx; simp at hx)
            · exact .inr (.inl hx)
            · exact .inr (.inr hx)
          · simp only [Bool.or_eq_true, Bool.and_eq_true, decide_eq_true_eq] at hx
            rcases hx with hx | hx
            · exact .inl hx.1
            · exact .inr hx
        · exact ⟨fun hx => (by cases hx), fun hx => (by cases hx)⟩
      · cases hc
end
/-- what both pollers remember of the same. -/
def WR (d e : Wd) : Prop := d.id = e.id ∧ d.rd = e.rd ∧ d.wr = e.wr ∧ d.ed = e.ed ∧ (d.ed = true → (d.tr = e.tr ∨ d.tr = 0 ∧ e.tr = -1) ∧ (d.tm = e.tm ∨ d.tm = 0 ∧ e.tm = -1))
theorem told_same {N : NS} (h : MarkOk N) {d e : Wd} (hw : WR d e) : (toldD N d).1 = (toldR N e).1 ∧ (toldD N d).2.1 = (toldR N e).2.1 ∧ WR (toldD N d).2.2 (toldR N e).2.2 := by
  obtain ⟨id, rd, wr, ed, tr, tm⟩ := d
  obtain ⟨id2, rd2, wr2, ed2, tr2, tm2⟩ := e
  obtain ⟨h1, h2, h3, h4, h5⟩ := hw
  simp only at h1 h2 h3 h4 h5
  subst h1 h2 h3 h4
  obtain ⟨m1, m2⟩ := mark_ready h id
  unfold toldD toldR
  cases ed with
  | false =>
    simp only [Bool.false_eq_true, if_false, Bool.not_false, Bool.true_or, Bool.and_true]
    exact ⟨trivial, trivial, rfl, rfl, rfl, rfl, fun hx => by cases hx⟩
  | true =>
    obtain ⟨t1, t2⟩ := h5 rfl
    have e1 : ((readyN N id).1 && rd && (!true || decide (tr2 < (marksN N id).1))) = ((readyN N id).1 && rd && decide (tr < (marksN N id).1)) := by
      cases hr : (readyN N id).1 with
      | false => rfl
      | true =>
        have := m1 hr
        rcases t1 with t1 | ⟨t1, t1'⟩
        · rw [t1]; rfl
        · have a1 : tr2 < (marksN N id).1 := by omega
          have a2 : tr < (marksN N id).1 := by omega
          simp [a1, a2]
    have e2 : ((readyN N id).2 && wr && (!true || decide (tm2 < (marksN N id).2))) = ((readyN N id).2 && wr && decide (tm < (marksN N id).2)) := by
      cases hr : (readyN N id).2 with
      | false => rfl
      | true =>
        have := m2 hr
        rcases t2 with t2 | ⟨t2, t2'⟩
        · rw [t2]; rfl
        · have a1 : tm2 < (marksN N id).2 := by omega
          have a2 : tm < (marksN N id).2 := by omega
          simp [a1, a2]
    simp only [if_true, e1, e2]
    refine ⟨trivial, trivial, rfl, rfl, rfl, rfl, fun _ => ⟨?_, ?_⟩⟩
    · simp only
      split
      · exact .inl rfl
      · exact t1
    · simp only
      split
      · exact .inl rfl
      · exact t2
end Go.Proofs.Ytkeffebcmajhmaa
/- PollPlays, plain words: both pollers watch the same. -/
namespace Go.Proofs.Ytkeffebcmajhmaa
open Go.RowKit
set_option linter.unusedVariables false
set_option linter.unusedSimpArgs false
theorem flatMap_same {α β : Type} {f g : α → List β} : ∀ {l : List α}, (∀ x ∈ l, f x = g x) → l.flatMap f = l.flatMap g
  | [], _ => rfl
  | x :: l, h => by
    rw [List.flatMap_cons, List.flatMap_cons, h x (by simp), flatMap_same (fun y hy => h y (by simp [hy]))]
def LR (L : List Slot) (ds : WL) (D : Nat → Wd) : Prop := ∃ es : List PX, ds = dsX es ∧ Keyed L es ∧ ∀ x ∈ es, WR x.2 (D x.1.s.toNat)
theorem lr_nil (D : Nat → Wd) : LR [] [] D := ⟨[], rfl, ⟨List.nodup_nil, by simp, by simp⟩, by simp⟩
section
variable {L : List Slot} {es : List PX} {ds : WL} {D : Nat → Wd} {N : NS}
theorem Keyed.find (h : Keyed L es) {x : PX} (hx : x ∈ es) : findW (dsX es) (x.1.s, x.1.g) = some x.2 := by
  unfold findW
  cases hf : (dsX es).find? (fun y => y.1 == (x.1.s, x.1.g)) with
  | none =>
    have := List.find?_eq_none.1 hf ((x.1.s, x.1.g), x.2) (List.mem_map.2 ⟨x, hx, rfl⟩)
    simp at this
  | some y =>
    have h1 := List.mem_of_find?_eq_some hf
    have h2 := List.find?_some hf
    obtain ⟨z, hz, rfl⟩ := List.mem_map.1 h1
    simp at h2
    have := nodup_inj (f := fun x : PX => x.1.s) h.kn hz hx h2.1
    subst this
    rfl
theorem Keyed.entry (h : Keyed L es) {k : Int × Int} (hk : k ∈ allFrom 0 L) : ∃ x ∈ es, x.1.s = k.1 ∧ x.1.g = k.2 := by
  obtain ⟨j, v, h1, h2⟩ := (allFrom_mem L 0 k).1 hk
  obtain ⟨x, hx, he⟩ := h.all j k.2 v h2
  obtain ⟨i, h3, h4⟩ := h.key x hx
  have hij : i = j := by omega
  subst hij
  rw [h2] at h4
  simp at h4
  exact ⟨x, hx, by rw [he, h1]; simp, h4.1.symm⟩
theorem lr_evs (h : LR L ds D) (hm : MarkOk N) : evsP N L ds = evsR N L D := by
  obtain ⟨es, rfl, hk, hw⟩ := h
  unfold evsP evsR
  refine flatMap_same ?_
  intro k hkm
  obtain ⟨x, hx, h1, h2⟩ := hk.entry hkm
  have hf := hk.find hx
  unfold evAt evAtR evOfR
  obtain ⟨a, b⟩ := k
  simp only at h1 h2
  subst h1 h2
  rw [hf]
  simp only
  obtain ⟨t1, t2, -⟩ := told_same hm (hw x hx)
  have hid := (hw x hx).1
  unfold evOf
  rw [t1, t2, hid]
theorem lr_wait (h : LR L ds D) (hm : MarkOk N) : LR L (toldP N ds) (toldRD N D) := by
  obtain ⟨es, rfl, hk, hw⟩ := h
  refine ⟨es.map (fun x => (x.1, (toldD N x.2).2.2)), by simp [toldP, List.map_map, Function.comp_def], ⟨?_, fun x hx => ?_, fun k g v hL => ?_⟩, fun x hx => ?_⟩
  · simpa [List.map_map, Function.comp_def] using hk.kn
  · obtain ⟨y, hy, rfl⟩ := List.mem_map.1 hx
    obtain ⟨k, h1, h2⟩ := hk.key y hy
    exact ⟨k, h1, by simpa [toldD_id] using h2⟩
  · obtain ⟨x, hx, he⟩ := hk.all k g v hL
    exact ⟨_, List.mem_map.2 ⟨x, hx, rfl⟩, he⟩
  · obtain ⟨y, hy, rfl⟩ := List.mem_map.1 hx
    exact (told_same hm (hw y hy)).2.2
theorem Keyed.fresh (h : Keyed L es) : ∀ x ∈ es, x.1.s ≠ ((freeAt L : Nat) : Int) := by
  intro x hx he
  obtain ⟨k, h1, h2⟩ := h.key x hx
  have hk : k = freeAt L := by omega
  subst hk
  have := (put_keys (L := L) (v := 0)).2.2.2 _ h2
  simp at this
theorem lr_watch (h : LR L ds D) (id : Int) (rd wr ed : Bool) : LR (putL L id) (ds ++ [((((freeAt L : Nat) : Int), putG L), ⟨id, rd, wr, ed, 0, 0⟩)]) (updD D (freeAt L) ⟨id, rd, wr, ed, -1, -1⟩) := by
  obtain ⟨es, rfl, hk, hw⟩ := h
  obtain ⟨q1, q2, q3, q4⟩ := put_keys (L := L) (v := id)
  refine ⟨es ++ [((⟨(freeAt L : Nat), putG L, 0, 0⟩ : PE), ⟨id, rd, wr, ed, 0, 0⟩)], by simp, ⟨?_, fun x hx => ?_, fun k g v hL => ?_⟩, fun x hx => ?_⟩
  · rw [List.map_append, List.nodup_append]
    refine ⟨hk.kn, by simp, fun a ha b hb he => ?_⟩
    obtain ⟨x, hx, rfl⟩ := List.mem_map.1 ha
    simp at hb
    exact hk.fresh x hx (he.trans hb)
  · simp only [List.mem_append, List.mem_singleton] at hx
    rcases hx with hx | rfl
    · obtain ⟨k, h1, h2⟩ := hk.key x hx
      exact ⟨k, h1, q1 k _ (fun e => hk.fresh x hx (by omega)) h2⟩
    · exact ⟨freeAt L, rfl, q2⟩
  · by_cases hkf : k = freeAt L
    · exact ⟨_, List.mem_append_right _ (List.mem_singleton.2 rfl), by simp [hkf]⟩
    · obtain ⟨x, hx, he⟩ := hk.all k g v (q3 k _ hkf hL)
      exact ⟨x, List.mem_append_left _ hx, he⟩
  · simp only [List.mem_append, List.mem_singleton] at hx
    rcases hx with hx | rfl
    · have hne : x.1.s.toNat ≠ freeAt L := fun e => by
        obtain ⟨k, h1, -⟩ := hk.key x hx
        exact hk.fresh x hx (by omega)
      simp only [updD, if_neg hne]
      exact hw x hx
    · simp only [updD, Int.toNat_natCast, if_true]
      exact ⟨rfl, rfl, rfl, rfl, fun _ => ⟨.inr ⟨rfl, rfl⟩, .inr ⟨rfl, rfl⟩⟩⟩
theorem lr_dup (h : LR L ds D) (id : Int) : (∃ x ∈ ds, x.2.id = id) ↔ ∃ (k : Nat) (g : Int), L[k]? = some (g, true, id) := by
  obtain ⟨es, rfl, hk, hw⟩ := h
  constructor
  · rintro ⟨y, hy, he⟩
    obtain ⟨x, hx, rfl⟩ := List.mem_map.1 hy
    obtain ⟨k, h1, h2⟩ := hk.key x hx
    simp only at he
    rw [he] at h2
    exact ⟨k, _, h2⟩
  · rintro ⟨k, g, hL⟩
    obtain ⟨x, hx, he⟩ := hk.all k g id hL
    obtain ⟨i, h1, h2⟩ := hk.key x hx
    have hik : i = k := by omega
    subst hik
    rw [hL] at h2
    simp at h2
    exact ⟨_, List.mem_map.2 ⟨x, hx, rfl⟩, h2.2.symm⟩
theorem lr_live (h : LR L ds D) (i g : Int) : (findW ds (i, g) = none → live L i g = none) ∧ (∀ d, findW ds (i, g) = some d → ∃ (k : Nat) (v : Int), live L i g = some (k, v) ∧ i = k) := by
  obtain ⟨es, rfl, hk, hw⟩ := h
  refine ⟨fun hn => ?_, fun d hd => ?_⟩
  · cases hl : live L i g with
    | none => rfl
    | some kv =>
      obtain ⟨k, v⟩ := kv
      obtain ⟨rfl, hL⟩ := live_some hl
      obtain ⟨x, hx, h1, h2⟩ := hk.entry (k := ((k : Int), g)) ((allFrom_mem L 0 _).2 ⟨k, v, by simp, hL⟩)
      exact absurd ⟨h1, h2⟩ (find_out hn x hx)
  · obtain ⟨x, hx, h1, h2, h3⟩ := find_in hd
    obtain ⟨k, h4, h5⟩ := hk.key x hx
    have h6 := live_of h5
    rw [← h4, h1, h2] at h6
    exact ⟨k, x.2.id, h6, by omega⟩
theorem lr_change (h : LR L ds D) {k : Nat} {g v : Int} (hl : live L (k : Int) g = some (k, v)) (a b : Bool) : LR L (chgW ds ((k : Int), g) a b) (updD D k (chgR a b (D k))) := by
  obtain ⟨es, rfl, hk, hw⟩ := h
  obtain ⟨-, hL⟩ := live_some hl
  refine ⟨es.map (fun x => (x.1, if (x.1.s, x.1.g) = ((k : Int), g) then chgD a b x.2 else x.2)), by simp [chgW, List.map_map, Function.comp_def], ⟨?_, fun x hx => ?_, fun j g' v' hL' => ?_⟩, fun x hx => ?_⟩
  · simpa [List.map_map, Function.comp_def] using hk.kn
  · obtain ⟨y, hy, rfl⟩ := List.mem_map.1 hx
    obtain ⟨j, h1, h2⟩ := hk.key y hy
    refine ⟨j, h1, ?_⟩
    simp only
    split <;> exact h2
  · obtain ⟨x, hx, he⟩ := hk.all j g' v' hL'
    exact ⟨_, List.mem_map.2 ⟨x, hx, rfl⟩, he⟩
  · obtain ⟨y, hy, rfl⟩ := List.mem_map.1 hx
    simp only
    obtain ⟨j, h1, h2⟩ := hk.key y hy
    have hw1 := hw y hy
    by_cases hjk : j = k
    · subst hjk
      rw [hL] at h2
      simp at h2
      rw [if_pos (by rw [h1, h2.1])]
      rw [h1, Int.toNat_natCast] at hw1 ⊢
      simp only [updD, if_true]
      obtain ⟨w1, w2, w3, w4, w5⟩ := hw1
      exact ⟨w1, rfl, rfl, w4, fun _ => ⟨.inr ⟨rfl, rfl⟩, .inr ⟨rfl, rfl⟩⟩⟩
    · have hne : ¬ (y.1.s, y.1.g) = ((k : Int), g) := fun he => by
        have := congrArg Prod.fst he
        simp only at this
        omega
      have hne2 : y.1.s.toNat ≠ k := by omega
      rw [if_neg hne]
      simp only [updD, if_neg hne2]
      exact hw1
theorem lr_drop (h : LR L ds D) (hs : List (Int × Int)) : LR (takeAll L hs).1 (outW ds hs) D ∧ (takeAll L hs).2 + (outW ds hs).length = ds.length ∧ ∀ (k : Nat) (g v : Int), (takeAll L hs).1[k]? = some (g, true, v) → L[k]? = some (g, true, v) := by
  obtain ⟨es, rfl, hk, hw⟩ := h
  obtain ⟨h1, h2⟩ := Keyed.out hs L es 0 hk
  refine ⟨⟨outX es hs, outW_map es hs, h1, fun x hx => hw x (List.mem_filter.1 hx).1⟩, ?_, fun k g v hL => ?_⟩
  · rw [outW_map]
    simp only [dsX, List.length_map]
    have h3 : hs.foldl take1 (L, 0) = takeAll L hs := rfl
    rw [h3] at h2
    omega
  · obtain ⟨x, hx, he⟩ := h1.all k g v hL
    obtain ⟨i, h3, h4⟩ := h1.key x hx
    obtain ⟨j, h5, h6⟩ := hk.key x (List.mem_filter.1 hx).1
    have hik : i = k := by omega
    have hjk : j = k := by omega
    subst hik
    subst hjk
    have h7 : (takeAll L hs).1[j]? = some (x.1.g, true, x.2.id) := h4
    rw [hL] at h7
    rw [h6, ← h7]
end
end Go.Proofs.Ytkeffebcmajhmaa
/- PollEdges in plain words. -/
namespace Go.Proofs.Ytkeffebcmajhmaa
open Go.RowKit
set_option linter.unusedVariables false
set_option linter.unusedSimpArgs false
theorem eN_send (inn : List Int) (r : Int) (t : List Int) (h : inn.length < 1024) : sendN (eN inn r t) 0 [[1]] = (eN (inn ++ [1]) (r + 1) t, 1, 0) := by
  unfold sendN
  have hc : (eN inn r t).cs[0]? = some ⟨false, true, false, 1, false, false, true, inn, 0, r, 0, [], t⟩ := rfl
  have h0 := onConn_some hc (sendD [[1]]) (0, 2)
  rw [show ((0 : Nat) : Int) = 0 from rfl] at h0
  rw [h0]
  have h1 : (inn ++ [1]).take 1024 = inn ++ [1] := List.take_of_length_le (by simp; omega)
  simp only [sendD, theirsD, NS.upd, eN, List.flatten_cons, List.flatten_nil, List.append_nil, h1]
  simp
theorem eN_read (inn : List Int) (r : Int) (t : List Int) (h : inn.length ≤ 1024) : ∃ x, readN (eN inn r t) 0 2000 = (eN [] r (t ++ inn), x) := by
  unfold readN
  rw [if_neg (by omega)]
  have hc : (eN inn r t).cs[0]? = some ⟨false, true, false, 1, false, false, true, inn, 0, r, 0, [], t⟩ := rfl
  have h0 := onConn_some hc (readD (2000 : Int).toNat) ([], 2)
  rw [show ((0 : Nat) : Int) = 0 from rfl] at h0
  rw [h0]
  unfold readD
  rw [if_pos (by rfl)]
  by_cases hi : inn = []
  · subst hi
    exact ⟨([], 4), by simp [eN, NS.upd]⟩
  · have h1 : inn.take (2000 : Int).toNat = inn := List.take_of_length_le (Nat.le_trans h (by decide))
    have h2 : inn.drop (2000 : Int).toNat = [] := List.drop_eq_nil_of_le (Nat.le_trans h (by decide))
    rw [if_neg (by simp [hi])]
    refine ⟨(inn, 0), ?_⟩
    simp only [h1, h2]
    rfl
def edD (edge : Bool) (tr : Int) : Wd := ⟨0, true, false, edge, tr, 0⟩
def edE : Ev := ((0, 1), 0, true, false)
def edL : List Slot := [(1, true, 0)]
/-- is it told? -/
def edT (edge : Bool) (inn : List Int) (r tr : Int) : Bool := decide (0 < inn.length) && (!edge || decide (tr < r))
theorem eN_ready (inn : List Int) (r : Int) (t : List Int) : readyN (eN inn r t) 0 = (decide (0 < inn.length), false) := by
  unfold readyN
  rw [if_neg (by omega)]
  have hc : cnAt (eN inn r t) ((0 : Nat) : Int) = _ := cnAt_some (d := ⟨false, true, false, 1, false, false, true, inn, 0, r, 0, [], t⟩) rfl
  rw [show ((0 : Nat) : Int) = 0 from rfl] at hc
  rw [hc]
  simp
theorem eN_marks (inn : List Int) (r : Int) (t : List Int) : marksN (eN inn r t) 0 = (r, 0) := by
  unfold marksN
  rw [if_neg (by omega)]
  have hc : cnAt (eN inn r t) ((0 : Nat) : Int) = _ := cnAt_some (d := ⟨false, true, false, 1, false, false, true, inn, 0, r, 0, [], t⟩) rfl
  rw [show ((0 : Nat) : Int) = 0 from rfl] at hc
  rw [hc]
theorem ed_told (edge : Bool) (inn : List Int) (r tr : Int) (t : List Int) : toldD (eN inn r t) (edD edge tr) = (edT edge inn r tr, false, edD edge (if edge = true ∧ edT edge inn r tr = true then r else tr)) := by
  unfold toldD edT edD
  rw [eN_ready, eN_marks]
  cases edge
  · simp
  · cases h : decide (0 < inn.length) <;> cases h2 : decide (tr < r) <;> simp [h, h2]
theorem ed_evs (edge : Bool) (inn : List Int) (r tr : Int) (t : List Int) : evsP (eN inn r t) edL [((0, 1), edD edge tr)] = if edT edge inn r tr = true then [edE] else [] := by
  have h : evsP (eN inn r t) edL [((0, 1), edD edge tr)] = evOf (eN inn r t) (0, 1) (edD edge tr) := by
    simp [evsP, edL, allFrom, evAt, findW]
  rw [h]
  unfold evOf
  rw [ed_told]
  cases hh : edT edge inn r tr <;> simp [edE, edD]
theorem ed_toldP (edge : Bool) (inn : List Int) (r tr : Int) (t : List Int) : toldP (eN inn r t) [((0, 1), edD edge tr)] = [((0, 1), edD edge (if edge = true ∧ edT edge inn r tr = true then r else tr))] := by
  simp [toldP, ed_told]
theorem ed_pick (l : Bool) : pickE [] (if l = true then [edE] else []) = if l = true then [edE] else [] := by
  cases l <;> rfl
/-- something came: it is told. -/
theorem ed_came (edge : Bool) (inn : List Int) (r : Int) : edT edge (inn ++ [1]) (r + 1) (if edge = true then r else 0) = true := by
  cases edge <;> simp [edT]
  omega
theorem ed_cameT (inn : List Int) (r : Int) : edT true (inn ++ [1]) (r + 1) r = true := by simp [edT]; omega
theorem ed_cameF (inn : List Int) (r : Int) : edT false (inn ++ [1]) (r + 1) 0 = true := by simp [edT]
theorem ed_not (inn : List Int) (r : Int) : edT true inn r r = false := by simp [edT]
theorem ed_there (inn : List Int) (r tr : Int) : edT false inn r tr = decide (0 < inn.length) := by simp [edT]
theorem PS.less {w0 w : World} {pb n : Nat} {N : NS} {L : List Slot} {ds : WL} {A : List (Value × List Ev)} {C : List ((Nat × Nat) × Value)} (h : PS w0 w pb n N L ds A C) : PS w0 w pb n N L ds [] C := by
  obtain ⟨F, h1, h2, h3, h4, h5⟩ := h
  exact ⟨F, h1, h2, h3, by simp, h5⟩
/-- a Handle lies aside. -/
theorem PS.handle {w0 w : World} {pb n : Nat} {N : NS} {L : List Slot} {ds : WL} {A : List (Value × List Ev)} (h : PS w0 w pb n N L ds A []) (a b : Int) :
    PS w0 (w.alloc (.cells #[.int .i64 a, .int .i64 b] 30)) pb n N L ds A [((w.heap.size, 1), .int .i64 b), ((w.heap.size, 0), .int .i64 a)] := by
  have h1 := h.aside ((Keeps.refl [] w).alloc (.cells #[.int .i64 a, .int .i64 b] 30)) (g := w.heap.size) (i := 0) (v := .int .i64 a) (Nat.le_refl _) (by simp)
  obtain ⟨F, h1, h2, h3, h4, h5⟩ := h1
  refine ⟨F, h1, h2, h3, h4, fun c hc => ?_⟩
  have h6 := h5 ((w.heap.size, 0), .int .i64 a) (by simp)
  simp only [List.mem_cons, List.not_mem_nil, or_false] at hc
  rcases hc with rfl | rfl
  · exact ⟨h6.1, by simp⟩
  · exact h6
/-- the Handle's cells. -/
theorem PS.hcells {w0 w : World} {pb n hb : Nat} {N : NS} {L : List Slot} {ds : WL} {A : List (Value × List Ev)} {a b : Int} (h : PS w0 w pb n N L ds A [((hb, 1), .int .i64 b), ((hb, 0), .int .i64 a)]) :
    w.cell? ⟨hb, 0, none⟩ = some (.int .i64 a) ∧ w.cell? ⟨hb, 1, none⟩ = some (.int .i64 b) :=
  ⟨h.at_ (c := ((hb, 0), .int .i64 a)) (by simp), h.at_ (c := ((hb, 1), .int .i64 b)) (by simp)⟩
end Go.Proofs.Ytkeffebcmajhmaa
