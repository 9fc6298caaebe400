/- The net: what it is in plain words, and what it is in memory (of the program's net and of the reference's alike). -/
import Derived.Test.YtkeffebcmajhmaaPq01
import Derived.Test.YtkeffebcmajhmaaRows
import Derived.Deep.QuietTactic
import Derived.BigQuiet
import Derived.StillTailTactics
import Derived.Deep.LoopGhost
import Derived.Deep.RegionHeld3
import Derived.Deep.RegionLaw
import Derived.Deep.DeepCutAuto
namespace Go.Proofs.Ytkeffebcmajhmaa
open Go.RowKit
set_option linter.unusedVariables false
structure Cn where
  waits : Bool
  opn : Bool
  broken : Bool
  peer : Int
  halved : Bool
  shut : Bool
  taken : Bool
  inn : List Int
  window : Int
  reads : Int
  writes : Int
  got : List Int
  told : List Int
structure NS where
  backlog : Int
  cs : List Cn
  queue : List Nat
  stopped : Bool
  fails : Int
  marks : Int
  nopen : Int
structure Cfg where
  T : TypeId
  PT : TypeId
  NT : TypeId
  lay : Cn → Value → Value → Value → Array Value
  nlay : NS → Value → Value → Array Value
def bytesV (l : List Int) : List Value := l.map (.int .u8)
theorem bytesV_length (l : List Int) : (bytesV l).length = l.length := by simp [bytesV]
theorem bytesV_append (a b : List Int) : bytesV (a ++ b) = bytesV a ++ bytesV b := by simp [bytesV]
theorem bytesV_take (n : Nat) (b : List Int) : bytesV (b.take n) = (bytesV b).take n := by simp [bytesV]
theorem bytesV_drop (n : Nat) (b : List Int) : bytesV (b.drop n) = (bytesV b).drop n := by simp [bytesV]
theorem bytesV_one (l : List Int) : ∀ u ∈ bytesV l, u.oneCell' = true := by
  intro u hu
  unfold bytesV at hu
  obtain ⟨x, -, rfl⟩ := List.mem_map.1 hu
  rfl
def ptrsV (ps : List Nat) : List Value := ps.map fun p => .pointer (some ⟨p, 0, none⟩)
def natsV (qs : List Nat) : List Value := qs.map fun (q : Nat) => .int .i64 (q : Int)
def BRow (w : World) (own : Nat → Nat) (t : Nat) (v : Value) (l : List Int) : Prop := Row w 5 1 v l.length (bytesV l) ∧ ∀ k, v.ownBlock = some k → own k = t
def CAt (c : Cfg) (w : World) (own : Nat → Nat) (i p : Nat) (d : Cn) (vi vo vt : Value) : Prop :=
  Blk w p c.T (c.lay d vi vo vt) ∧ own p = 4 * i + 4 ∧ BRow w own (4 * i + 5) vi d.inn ∧ BRow w own (4 * i + 6) vo d.got ∧ BRow w own (4 * i + 7) vt d.told
structure NAt (c : Cfg) (w : World) (n : Nat) (F : List Nat) (own : Nat → Nat) (ps : List Nat) (vc vq : Value) (N : NS) : Prop where
  ftag : ∀ k, own k ≠ 0 → k ∈ F
  flt : ∀ k ∈ F, k < w.heap.size
  tn : own n = 1
  blk : Blk w n c.NT (c.nlay N vc vq)
  rc : Row w c.PT 1 vc N.cs.length (ptrsV ps)
  oc : ∀ k, vc.ownBlock = some k → own k = 2
  rq : Row w 3 1 vq N.queue.length (natsV N.queue)
  oq : ∀ k, vq.ownBlock = some k → own k = 3
  len : ps.length = N.cs.length
  at_ : ∀ i p d, ps[i]? = some p → N.cs[i]? = some d → ∃ vi vo vt, CAt c w own i p d vi vo vt
def NRep (c : Cfg) (w : World) (n : Nat) (F : List Nat) (N : NS) : Prop := ∃ own ps vc vq, NAt c w n F own ps vc vq N
def LaterF (F : List Nat) (w : World) (F' : List Nat) : Prop := ∀ k ∈ F', k ∈ F ∨ w.heap.size ≤ k
section
variable {c : Cfg} {w w' : World} {n : Nat} {F : List Nat} {own : Nat → Nat} {ps : List Nat} {vc vq : Value} {N : NS}
theorem BRow.keeps {K : List Nat} {t : Nat} {v : Value} {l : List Int} (h : BRow w own t v l) (hk : Keeps K w w') (hd : ∀ k, own k = t → k ∉ K) : BRow w' own t v l :=
  ⟨h.1.keeps hk (fun k hk => hd k (h.2 k hk)), h.2⟩
theorem CAt.keeps {K : List Nat} {i p : Nat} {d : Cn} {vi vo vt : Value} (h : CAt c w own i p d vi vo vt) (hk : Keeps K w w') (hd : ∀ k, 4 * i + 4 ≤ own k → own k ≤ 4 * i + 7 → k ∉ K) : CAt c w' own i p d vi vo vt := by
  obtain ⟨h1, h2, h3, h4, h5⟩ := h
  exact ⟨h1.keeps hk (hd p (by omega) (by omega)), h2, h3.keeps hk (fun k h => hd k (by omega) (by omega)), h4.keeps hk (fun k h => hd k (by omega) (by omega)), h5.keeps hk (fun k h => hd k (by omega) (by omega))⟩
theorem NAt.keeps {K : List Nat} (h : NAt c w n F own ps vc vq N) (hk : Keeps K w w') (hd : ∀ k ∈ F, k ∉ K) : NAt c w' n F own ps vc vq N where
  ftag := h.ftag
  flt := fun k e => Nat.lt_of_lt_of_le (h.flt k e) hk.size
  tn := h.tn
  blk := h.blk.keeps hk (hd n (h.ftag n (by rw [h.tn]; omega)))
  rc := h.rc.keeps hk (fun k e => hd k (h.ftag k (by rw [h.oc k e]; omega)))
  oc := h.oc
  rq := h.rq.keeps hk (fun k e => hd k (h.ftag k (by rw [h.oq k e]; omega)))
  oq := h.oq
  len := h.len
  at_ := fun i p d hp hd' => by
    obtain ⟨vi, vo, vt, hc⟩ := h.at_ i p d hp hd'
    exact ⟨vi, vo, vt, hc.keeps hk (fun k h1 h2 => hd k (h.ftag k (by omega)))⟩
theorem NRep.keeps {K : List Nat} (h : NRep c w n F N) (hk : Keeps K w w') (hd : ∀ k ∈ F, k ∉ K) : NRep c w' n F N := by
  obtain ⟨own, ps, vc, vq, h⟩ := h
  exact ⟨own, ps, vc, vq, h.keeps hk hd⟩
theorem NRep.flt (h : NRep c w n F N) : ∀ k ∈ F, k < w.heap.size := by
  obtain ⟨own, ps, vc, vq, h⟩ := h
  exact h.flt
theorem NRep.mem (h : NRep c w n F N) : n ∈ F := by
  obtain ⟨own, ps, vc, vq, h⟩ := h
  exact h.ftag n (by rw [h.tn]; omega)
/-- the tags once a call is done: new blocks get theirs. -/
def own2 (w : World) (own : Nat → Nat) (i : Nat) (vi vo vt vq : Value) (k : Nat) : Nat :=
  if k < w.heap.size then own k else if vi.ownBlock = some k then 4 * i + 5 else if vo.ownBlock = some k then 4 * i + 6 else if vt.ownBlock = some k then 4 * i + 7 else if vq.ownBlock = some k then 3 else 0
/-- a connection has changed, perhaps the net's own cells and its queue as well. -/
theorem NAt.put {G : List Nat} {i p : Nat} {d' : Cn} {vi vo vt vq' : Value} {N' : NS} (h : NAt c w n F own ps vc vq N) (hp : ps[i]? = some p) (hN : N'.cs = N.cs.set i d') (hk : Keeps G w w')
    (hG : ∀ k ∈ G, k < w.heap.size → own k = 1 ∨ own k = 3 ∨ (4 * i + 4 ≤ own k ∧ own k ≤ 4 * i + 7)) (hpo : own p = 4 * i + 4) (hpl : p < w.heap.size)
    (hn : Blk w' n c.NT (c.nlay N' vc vq')) (hq : Row w' 3 1 vq' N'.queue.length (natsV N'.queue)) (hb : Blk w' p c.T (c.lay d' vi vo vt))
    (hi : Row w' 5 1 vi d'.inn.length (bytesV d'.inn)) (ho : Row w' 5 1 vo d'.got.length (bytesV d'.got)) (ht : Row w' 5 1 vt d'.told.length (bytesV d'.told))
    (ei : ∀ k, vi.ownBlock = some k → (k < w.heap.size ∧ own k = 4 * i + 5) ∨ w.heap.size ≤ k) (eo : ∀ k, vo.ownBlock = some k → (k < w.heap.size ∧ own k = 4 * i + 6) ∨ w.heap.size ≤ k)
    (et : ∀ k, vt.ownBlock = some k → (k < w.heap.size ∧ own k = 4 * i + 7) ∨ w.heap.size ≤ k) (eq : ∀ k, vq'.ownBlock = some k → (k < w.heap.size ∧ own k = 3) ∨ w.heap.size ≤ k)
    (x : ∀ k, w.heap.size ≤ k → (vi.ownBlock = some k → vo.ownBlock ≠ some k ∧ vt.ownBlock ≠ some k ∧ vq'.ownBlock ≠ some k) ∧ (vo.ownBlock = some k → vt.ownBlock ≠ some k ∧ vq'.ownBlock ≠ some k) ∧ (vt.ownBlock = some k → vq'.ownBlock ≠ some k)) :
    ∃ F', NRep c w' n F' N' ∧ LaterF F w F' := by
  have ol : ∀ k, k < w.heap.size → own2 w own i vi vo vt vq' k = own k := fun k hk => by unfold own2; rw [if_pos hk]
  have old : ∀ k, own k ≠ 0 → own2 w own i vi vo vt vq' k = own k := fun k hk => ol k (h.flt k (h.ftag k hk))
  have li := hi.lt
  have lo := ho.lt
  have lt := ht.lt
  have lq := hq.lt
  have hkey : ∀ k, own2 w own i vi vo vt vq' k ≠ 0 → k ∈ F ∨ vi.ownBlock = some k ∨ vo.ownBlock = some k ∨ vt.ownBlock = some k ∨ vq'.ownBlock = some k := by
    intro k hk
    unfold own2 at hk
    split at hk
    · exact .inl (h.ftag k hk)
    · split at hk
      · rename_i e; exact .inr (.inl e)
      · split at hk
        · rename_i e; exact .inr (.inr (.inl e))
        · split at hk
          · rename_i e; exact .inr (.inr (.inr (.inl e)))
          · split at hk
            · rename_i e; exact .inr (.inr (.inr (.inr e)))
            · exact absurd rfl hk
  have ti : ∀ k, vi.ownBlock = some k → own2 w own i vi vo vt vq' k = 4 * i + 5 := fun k e => by
    rcases ei k e with ⟨h1, h2⟩ | h1
    · rw [ol k h1, h2]
    · unfold own2
      rw [if_neg (by omega), if_pos e]
  have tow : ∀ k, vo.ownBlock = some k → own2 w own i vi vo vt vq' k = 4 * i + 6 := fun k e => by
    rcases eo k e with ⟨h1, h2⟩ | h1
    · rw [ol k h1, h2]
    · obtain ⟨x1, x2, x3⟩ := x k h1
      unfold own2
      rw [if_neg (by omega), if_neg (fun e1 => (x1 e1).1 e), if_pos e]
  have tt : ∀ k, vt.ownBlock = some k → own2 w own i vi vo vt vq' k = 4 * i + 7 := fun k e => by
    rcases et k e with ⟨h1, h2⟩ | h1
    · rw [ol k h1, h2]
    · obtain ⟨x1, x2, x3⟩ := x k h1
      unfold own2
      rw [if_neg (by omega), if_neg (fun e1 => (x1 e1).2.1 e), if_neg (fun e1 => (x2 e1).1 e), if_pos e]
  have tq : ∀ k, vq'.ownBlock = some k → own2 w own i vi vo vt vq' k = 3 := fun k e => by
    rcases eq k e with ⟨h1, h2⟩ | h1
    · rw [ol k h1, h2]
    · obtain ⟨x1, x2, x3⟩ := x k h1
      unfold own2
      rw [if_neg (by omega), if_neg (fun e1 => (x1 e1).2.2 e), if_neg (fun e1 => (x2 e1).2 e), if_neg (fun e1 => x3 e1 e), if_pos e]
  have far : ∀ k, own k ≠ 0 → own k ≠ 1 → own k ≠ 3 → (own k < 4 * i + 4 ∨ 4 * i + 7 < own k) → k ∉ G := fun k h0 h1 h3 h4 hx => by
    have := hG k hx (h.flt k (h.ftag k h0))
    omega
  refine ⟨F ++ (vi.ownBlock.toList ++ (vo.ownBlock.toList ++ (vt.ownBlock.toList ++ vq'.ownBlock.toList))), ⟨own2 w own i vi vo vt vq', ps, vc, vq', ?_⟩, ?_⟩
  · refine ⟨fun k hk => ?_, fun k hk => ?_, ?_, hn, ?_, ?_, hq, tq, ?_, ?_⟩
    · rcases hkey k hk with e | e | e | e | e <;> simp [e]
    · simp only [List.mem_append, Option.mem_toList] at hk
      rcases hk with e | e | e | e | e
      · exact Nat.lt_of_lt_of_le (h.flt k e) ‹Keeps G w w'›.size
      · exact li k e
      · exact lo k e
      · exact lt k e
      · exact lq k e
    · rw [old n (by rw [h.tn]; omega), h.tn]
    · rw [hN, List.length_set]
      exact h.rc.keeps ‹Keeps G w w'› (fun k e => far k (by rw [h.oc k e]; omega) (by rw [h.oc k e]; omega) (by rw [h.oc k e]; omega) (by rw [h.oc k e]; omega))
    · intro k e
      have := h.oc k e
      rw [old k (by omega), this]
    · rw [hN, List.length_set, h.len]
    · intro j q e hq' he
      rw [hN] at he
      by_cases hj : j = i
      · subst hj
        rw [hp] at hq'
        injection hq' with hq'
        subst hq'
        have hlt : j < N.cs.length := by
          have := (List.getElem?_eq_some_iff.1 hp).1
          have := h.len
          omega
        rw [List.getElem?_set_self hlt] at he
        injection he with he
        subst he
        exact ⟨vi, vo, vt, hb, by rw [old p (by omega), hpo], ⟨hi, ti⟩, ⟨ho, tow⟩, ⟨ht, tt⟩⟩
      · rw [List.getElem?_set_ne (by omega)] at he
        obtain ⟨ui, uo, ut, h1, h2, h3, h4, h5⟩ := h.at_ j q e hq' he
        refine ⟨ui, uo, ut, h1.keeps ‹Keeps G w w'› (far q ?_ ?_ ?_ ?_), by rw [old q (by omega), h2], ⟨h3.1.keeps ‹Keeps G w w'› (fun k hk => ?_), fun k hk => ?_⟩, ⟨h4.1.keeps ‹Keeps G w w'› (fun k hk => ?_), fun k hk => ?_⟩, ⟨h5.1.keeps ‹Keeps G w w'› (fun k hk => ?_), fun k hk => ?_⟩⟩
        · omega
        · omega
        · omega
        · omega
        · have := h3.2 k hk
          exact far k (by omega) (by omega) (by omega) (by omega)
        · have := h3.2 k hk
          rw [old k (by omega), this]
        · have := h4.2 k hk
          exact far k (by omega) (by omega) (by omega) (by omega)
        · have := h4.2 k hk
          rw [old k (by omega), this]
        · have := h5.2 k hk
          exact far k (by omega) (by omega) (by omega) (by omega)
        · have := h5.2 k hk
          rw [old k (by omega), this]
  · intro k hk
    simp only [List.mem_append, Option.mem_toList] at hk
    rcases hk with e | e | e | e | e
    · exact .inl e
    · rcases ei k e with ⟨h1, h2⟩ | h1
      · exact .inl (h.ftag k (by omega))
      · exact .inr h1
    · rcases eo k e with ⟨h1, h2⟩ | h1
      · exact .inl (h.ftag k (by omega))
      · exact .inr h1
    · rcases et k e with ⟨h1, h2⟩ | h1
      · exact .inl (h.ftag k (by omega))
      · exact .inr h1
    · rcases eq k e with ⟨h1, h2⟩ | h1
      · exact .inl (h.ftag k (by omega))
      · exact .inr h1
/-- the net's own cells have changed, perhaps its queue as well. -/
theorem NAt.head {G : List Nat} {vq' : Value} {N' : NS} (h : NAt c w n F own ps vc vq N) (hN : N'.cs = N.cs) (hk : Keeps G w w')
    (hG : ∀ k ∈ G, k < w.heap.size → own k = 1 ∨ own k = 3) (hn : Blk w' n c.NT (c.nlay N' vc vq')) (hq : Row w' 3 1 vq' N'.queue.length (natsV N'.queue))
    (eq : ∀ k, vq'.ownBlock = some k → (k < w.heap.size ∧ own k = 3) ∨ w.heap.size ≤ k) : ∃ F', NRep c w' n F' N' ∧ LaterF F w F' := by
  have lq := hq.lt
  have far : ∀ k, own k ≠ 0 → own k ≠ 1 → own k ≠ 3 → k ∉ G := fun k h0 h1 h3 hx => by
    have := hG k hx (h.flt k (h.ftag k h0))
    omega
  obtain ⟨O, hO⟩ : ∃ O : Nat → Nat, O = fun k => if k < w.heap.size then own k else if vq'.ownBlock = some k then 3 else 0 := ⟨_, rfl⟩
  have old : ∀ k, own k ≠ 0 → O k = own k := fun k hk => by rw [hO]; exact if_pos (h.flt k (h.ftag k hk))
  refine ⟨F ++ vq'.ownBlock.toList, ⟨O, ps, vc, vq', ?_⟩, ?_⟩
  · refine ⟨fun k hk => ?_, fun k hk => ?_, ?_, hn, ?_, ?_, hq, ?_, ?_, ?_⟩
    · rw [hO] at hk
      simp only at hk
      split at hk
      · simp [h.ftag k hk]
      · split at hk
        · rename_i e; simp [e]
        · exact absurd rfl hk
    · simp only [List.mem_append, Option.mem_toList] at hk
      rcases hk with e | e
      · exact Nat.lt_of_lt_of_le (h.flt k e) ‹Keeps G w w'›.size
      · exact lq k e
    · rw [old n (by rw [h.tn]; omega), h.tn]
    · rw [hN]
      exact h.rc.keeps ‹Keeps G w w'› (fun k e => far k (by rw [h.oc k e]; omega) (by rw [h.oc k e]; omega) (by rw [h.oc k e]; omega))
    · intro k e
      have := h.oc k e
      rw [old k (by omega), this]
    · intro k e
      rcases eq k e with ⟨h1, h2⟩ | h1
      · rw [old k (by omega), h2]
      · rw [hO]
        simp only
        rw [if_neg (by omega), if_pos e]
    · rw [hN, h.len]
    · intro j q e hq' he
      rw [hN] at he
      obtain ⟨ui, uo, ut, h1, h2, h3, h4, h5⟩ := h.at_ j q e hq' he
      refine ⟨ui, uo, ut, h1.keeps ‹Keeps G w w'› (far q ?_ ?_ ?_), by rw [old q (by omega), h2], ⟨h3.1.keeps ‹Keeps G w w'› (fun k hk => ?_), fun k hk => ?_⟩, ⟨h4.1.keeps ‹Keeps G w w'› (fun k hk => ?_), fun k hk => ?_⟩, ⟨h5.1.keeps ‹Keeps G w w'› (fun k hk => ?_), fun k hk => ?_⟩⟩
      · omega
      · omega
      · omega
      · have := h3.2 k hk
        exact far k (by omega) (by omega) (by omega)
      · have := h3.2 k hk
        rw [old k (by omega), this]
      · have := h4.2 k hk
        exact far k (by omega) (by omega) (by omega)
      · have := h4.2 k hk
        rw [old k (by omega), this]
      · have := h5.2 k hk
        exact far k (by omega) (by omega) (by omega)
      · have := h5.2 k hk
        rw [old k (by omega), this]
  · intro k hk
    simp only [List.mem_append, Option.mem_toList] at hk
    rcases hk with e | e
    · exact .inl e
    · rcases eq k e with ⟨h1, h2⟩ | h1
      · exact .inl (h.ftag k (by omega))
      · exact .inr h1
/-- a connection has come. -/
theorem NAt.push {G : List Nat} {p : Nat} {d : Cn} {vc' vq' : Value} {N' : NS} (h : NAt c w n F own ps vc vq N) (hN : N'.cs = N.cs ++ [d]) (hk : Keeps G w w')
    (hG : ∀ k ∈ G, k < w.heap.size → own k = 1 ∨ own k = 2 ∨ own k = 3) (hpl : w.heap.size ≤ p) (hn : Blk w' n c.NT (c.nlay N' vc' vq')) (hc : Row w' c.PT 1 vc' N'.cs.length (ptrsV (ps ++ [p])))
    (hq : Row w' 3 1 vq' N'.queue.length (natsV N'.queue)) (hb : Blk w' p c.T (c.lay d (.slice none 0 0) (.slice none 0 0) (.slice none 0 0))) (hd : d.inn = [] ∧ d.got = [] ∧ d.told = [])
    (ec : ∀ k, vc'.ownBlock = some k → (k < w.heap.size ∧ own k = 2) ∨ w.heap.size ≤ k) (eq : ∀ k, vq'.ownBlock = some k → (k < w.heap.size ∧ own k = 3) ∨ w.heap.size ≤ k)
    (x : vc'.ownBlock ≠ some p ∧ vq'.ownBlock ≠ some p ∧ ∀ k, w.heap.size ≤ k → vc'.ownBlock = some k → vq'.ownBlock ≠ some k) : ∃ F', NRep c w' n F' N' ∧ LaterF F w F' := by
  have lq := hq.lt
  have lc := hc.lt
  have lp := hb.lt
  obtain ⟨x1, x2, x3⟩ := x
  have far : ∀ k, own k ≠ 0 → own k ≠ 1 → own k ≠ 2 → own k ≠ 3 → k ∉ G := fun k h0 h1 h2 h3 hx => by
    have := hG k hx (h.flt k (h.ftag k h0))
    omega
  obtain ⟨O, hO⟩ : ∃ O : Nat → Nat, O = fun k => if k < w.heap.size then own k else if k = p then 4 * N.cs.length + 4 else if vc'.ownBlock = some k then 2 else if vq'.ownBlock = some k then 3 else 0 := ⟨_, rfl⟩
  have old : ∀ k, own k ≠ 0 → O k = own k := fun k hk => by rw [hO]; exact if_pos (h.flt k (h.ftag k hk))
  refine ⟨F ++ (p :: (vc'.ownBlock.toList ++ vq'.ownBlock.toList)), ⟨O, ps ++ [p], vc', vq', ?_⟩, ?_⟩
  · refine ⟨fun k hk => ?_, fun k hk => ?_, ?_, hn, hc, ?_, hq, ?_, ?_, ?_⟩
    · rw [hO] at hk
      simp only at hk
      split at hk
      · simp [h.ftag k hk]
      · split at hk
        · rename_i e; simp [e]
        · split at hk
          · rename_i e; simp [e]
          · split at hk
            · rename_i e; simp [e]
            · exact absurd rfl hk
    · simp only [List.mem_append, List.mem_cons, Option.mem_toList] at hk
      rcases hk with e | rfl | e | e
      · exact Nat.lt_of_lt_of_le (h.flt k e) ‹Keeps G w w'›.size
      · exact lp
      · exact lc k e
      · exact lq k e
    · rw [old n (by rw [h.tn]; omega), h.tn]
    · intro k e
      rcases ec k e with ⟨h1, h2⟩ | h1
      · rw [old k (by omega), h2]
      · rw [hO]
        simp only
        rw [if_neg (by omega), if_neg (fun e1 => x1 (by rw [e, e1])), if_pos e]
    · intro k e
      rcases eq k e with ⟨h1, h2⟩ | h1
      · rw [old k (by omega), h2]
      · rw [hO]
        simp only
        rw [if_neg (by omega), if_neg (fun e1 => x2 (by rw [e, e1])), if_neg (fun e1 => x3 k h1 e1 e), if_pos e]
    · rw [hN]
      simp [h.len]
    · intro j q e hq' he
      rw [hN] at he
      by_cases hj : j < N.cs.length
      · rw [List.getElem?_append_left (by rw [h.len]; exact hj)] at hq'
        rw [List.getElem?_append_left hj] at he
        obtain ⟨ui, uo, ut, h1, h2, h3, h4, h5⟩ := h.at_ j q e hq' he
        refine ⟨ui, uo, ut, h1.keeps ‹Keeps G w w'› (far q ?_ ?_ ?_ ?_), by rw [old q (by omega), h2], ⟨h3.1.keeps ‹Keeps G w w'› (fun k hk => ?_), fun k hk => ?_⟩, ⟨h4.1.keeps ‹Keeps G w w'› (fun k hk => ?_), fun k hk => ?_⟩, ⟨h5.1.keeps ‹Keeps G w w'› (fun k hk => ?_), fun k hk => ?_⟩⟩
        · omega
        · omega
        · omega
        · omega
        · have := h3.2 k hk
          exact far k (by omega) (by omega) (by omega) (by omega)
        · have := h3.2 k hk
          rw [old k (by omega), this]
        · have := h4.2 k hk
          exact far k (by omega) (by omega) (by omega) (by omega)
        · have := h4.2 k hk
          rw [old k (by omega), this]
        · have := h5.2 k hk
          exact far k (by omega) (by omega) (by omega) (by omega)
        · have := h5.2 k hk
          rw [old k (by omega), this]
      · have hjl : j < (N.cs ++ [d]).length := (List.getElem?_eq_some_iff.1 he).1
        have hje : j = N.cs.length := by simp at hjl; omega
        subst hje
        have hq2 : (ps ++ [p])[ps.length]? = some q := by rw [h.len]; exact hq'
        simp at hq2 he
        subst hq2 he
        obtain ⟨d1, d2, d3⟩ := hd
        refine ⟨_, _, _, hb, ?_, ⟨?_, by simp [Value.ownBlock]⟩, ⟨?_, by simp [Value.ownBlock]⟩, ⟨?_, by simp [Value.ownBlock]⟩⟩
        · rw [hO]
          simp only
          rw [if_neg (by omega)]
          simp
        · rw [d1]; exact Row.nil _ _ _
        · rw [d2]; exact Row.nil _ _ _
        · rw [d3]; exact Row.nil _ _ _
  · intro k hk
    simp only [List.mem_append, List.mem_cons, Option.mem_toList] at hk
    rcases hk with e | rfl | e | e
    · exact .inl e
    · exact .inr hpl
    · rcases ec k e with ⟨h1, h2⟩ | h1
      · exact .inl (h.ftag k (by omega))
      · exact .inr h1
    · rcases eq k e with ⟨h1, h2⟩ | h1
      · exact .inl (h.ftag k (by omega))
      · exact .inr h1
end
end Go.Proofs.Ytkeffebcmajhmaa
/- The slab: what it is in memory; New, at, Get, Set, Len by contract. -/
namespace Go.Proofs.Ytkeffebcmajhmaa
open Go.RowKit
abbrev Slot := Int × Bool × Int
def slotsV (L : List Slot) : List Value := L.flatMap fun d => [.int .i64 d.1, .bool d.2.1, .int .i64 d.2.2]
theorem slotsV_length (L : List Slot) : (slotsV L).length = L.length * 3 := by
  induction L with
  | nil => rfl
  | cons d L ih => simp only [slotsV, List.flatMap_cons, List.length_append, List.length_cons, List.length_nil] at ih ⊢; omega
theorem slotsV_append (L M : List Slot) : slotsV (L ++ M) = slotsV L ++ slotsV M := by simp [slotsV]
theorem slotsV_get (L : List Slot) (k : Nat) (d : Slot) (h : L[k]? = some d) : (slotsV L)[k * 3]? = some (.int .i64 d.1) ∧ (slotsV L)[k * 3 + 1]? = some (.bool d.2.1) ∧ (slotsV L)[k * 3 + 2]? = some (.int .i64 d.2.2) := by
  induction L generalizing k with
  | nil => simp at h
  | cons e L ih =>
    cases k with
    | zero => simp at h; subst h; simp [slotsV]
    | succ k =>
      have h' := ih k (by simpa using h)
      have e1 : (k + 1) * 3 = k * 3 + 1 + 1 + 1 := by omega
      rw [e1]
      simp only [slotsV, List.flatMap_cons, List.cons_append, List.nil_append] at h' ⊢
      refine ⟨?_, ?_, ?_⟩
      · simpa using h'.1
      · have e2 : k * 3 + 1 + 1 + 1 + 1 = (k * 3 + 1) + 1 + 1 + 1 := by omega
        rw [e2]; simpa using h'.2.1
      · have e2 : k * 3 + 1 + 1 + 1 + 2 = (k * 3 + 2) + 1 + 1 + 1 := by omega
        rw [e2]; simpa using h'.2.2
theorem slotsV_set (L : List Slot) (k : Nat) (d e : Slot) (h : L[k]? = some d) :
    (((slotsV L).set (k * 3) (.int .i64 e.1)).set (k * 3 + 1) (.bool e.2.1)).set (k * 3 + 2) (.int .i64 e.2.2) = slotsV (L.set k e) := by
  induction L generalizing k with
  | nil => simp at h
  | cons c L ih =>
    cases k with
    | zero => simp [slotsV]
    | succ k =>
      have h' := ih k (by simpa using h)
      have e1 : (k + 1) * 3 = k * 3 + 1 + 1 + 1 := by omega
      have e2 : k * 3 + 1 + 1 + 1 + 1 = (k * 3 + 1) + 1 + 1 + 1 := by omega
      have e3 : k * 3 + 1 + 1 + 1 + 2 = (k * 3 + 2) + 1 + 1 + 1 := by omega
      rw [e1, e2, e3]
      simp only [slotsV, List.flatMap_cons, List.cons_append, List.nil_append, List.set_cons_succ] at h' ⊢
      rw [h']
theorem set_self {α : Type} (l : List α) (k : Nat) (x : α) (h : l[k]? = some x) : l.set k x = l := by
  apply List.ext_getElem?
  intro i
  rw [List.getElem?_set]
  split
  · rename_i e; subst e
    split
    · rw [h]
    · rename_i h1; rw [List.getElem?_eq_none (by omega)]
  · rfl
theorem slotsV_used (L : List Slot) (k : Nat) (d : Slot) (u : Bool) (h : L[k]? = some d) : (slotsV L).set (k * 3 + 1) (.bool u) = slotsV (L.set k (d.1, u, d.2.2)) := by
  obtain ⟨h0, h1, h2⟩ := slotsV_get L k d h
  have := slotsV_set L k d (d.1, u, d.2.2) h
  rw [← this, set_self _ _ _ h0]
  refine (set_self _ _ _ ?_).symm
  rw [List.getElem?_set_ne (by omega)]
  exact h2
theorem slotsV_v (L : List Slot) (k : Nat) (d : Slot) (v : Int) (h : L[k]? = some d) : (slotsV L).set (k * 3 + 2) (.int .i64 v) = slotsV (L.set k (d.1, d.2.1, v)) := by
  obtain ⟨h0, h1, h2⟩ := slotsV_get L k d h
  have := slotsV_set L k d (d.1, d.2.1, v) h
  rw [← this, set_self _ _ _ h0, set_self _ _ _ h1]
/-- Block s is a slab: its slots, how many are in use. -/
def SRep (w : World) (s : Nat) (F : List Nat) (lim : Int) (L : List Slot) (n : Int) : Prop :=
  ∃ vs, Blk w s 134 #[.int .i64 lim, vs, .int .i64 n] ∧ Row w 136 3 vs L.length (slotsV L) ∧ (∀ k ∈ F, k < w.heap.size) ∧ s ∈ F ∧ (∀ k, vs.ownBlock = some k → k ∈ F)
section
variable {w w' : World} {s : Nat} {F : List Nat} {lim n : Int} {L : List Slot}
theorem SRep.keeps {K : List Nat} (h : SRep w s F lim L n) (hk : Keeps K w w') (hd : ∀ k ∈ F, k ∉ K) : SRep w' s F lim L n := by
  obtain ⟨vs, h1, h2, h3, h4, h5⟩ := h
  exact ⟨vs, h1.keeps hk (hd _ h4), h2.keeps hk (fun k e => hd _ (h5 k e)), fun k e => Nat.lt_of_lt_of_le (h3 k e) hk.size, h4, h5⟩
theorem SRep.flt (h : SRep w s F lim L n) : ∀ k ∈ F, k < w.heap.size := by
  obtain ⟨_, _, _, h3, _⟩ := h
  exact h3
end
def Later (F : List Nat) (w : World) (F' : List Nat) : Prop := ∀ k ∈ F', k ∈ F ∨ w.heap.size ≤ k
theorem Later.trans {F G H : List Nat} {w w' : World} (h : Later F w G) (h' : Later G w' H) (hs : w.heap.size ≤ w'.heap.size) : Later F w H := fun k hk => by
  rcases h' k hk with h1 | h1
  · exact h k h1
  · exact .inr (by omega)
theorem Later.refl (F : List Nat) (w : World) : Later F w F := fun _ h => .inl h
theorem Later.from {F F' : List Nat} {w : World} {B : Nat} (h : Later F w F') (hF : ∀ k ∈ F, B ≤ k) (hB : B ≤ w.heap.size) : ∀ k ∈ F', B ≤ k := fun k hk => by
  rcases h k hk with h1 | h1
  · exact hF k h1
  · omega
theorem slot_info : (Try.prog.info? 136).map (fun i => (i.zero, i.size, i.bytes)) = some (some (.agg #[.int .i64 0, .bool false, .int .i64 0]), 3, 24) := by kernel_rfl
theorem snew_bad (n : Int) (w : World) (h : n < 1 ∨ (1 ≤ n ∧ 4096 < n)) :
    Calls Try.prog 19 #[.int .i64 n] w fun e w' => e = .returned (.tuple #[.pointer none, .int .i64 1]) ∧ w = w' := by
  rcases h with h | ⟨h0, h⟩
  all_goals
    go_enter Try.func19, Try.ntmps19
    go_wp2
    go_ret2
    exact ⟨rfl, rfl⟩
theorem snew_ok (n : Int) (w : World) (h1 : 1 ≤ n) (h2 : n ≤ 4096) :
    Calls Try.prog 19 #[.int .i64 n] w fun e w' => e = .returned (.tuple #[.pointer (some ⟨w.heap.size, 0, none⟩), .int .i64 0]) ∧ SRep w' w.heap.size [w.heap.size] n [] 0 ∧ Keeps [] w w' := by
  have h1' : ¬ n < 1 := by omega
  have h2' : ¬ 4096 < n := by omega
  go_enter Try.func19, Try.ntmps19
  go_wp2
  go_ret2
  exact ⟨rfl, ⟨.slice none 0 0, Blk.new _ _ _, Row.nil _ _ _, by simp, by simp, by simp [Value.ownBlock]⟩, (Keeps.refl [] w).alloc _⟩
/-- Is a Handle in use? -/
def hit (L : List Slot) (i g : Int) : Bool := decide (0 ≤ i) && (match L[i.toNat]? with
  | some d => d.2.1 && d.1 == g
  | none => false)
end Go.Proofs.Ytkeffebcmajhmaa
/- The slab: at, Get, Set, Len by contract. -/
namespace Go.Proofs.Ytkeffebcmajhmaa
open Go.RowKit
set_option linter.unusedVariables false
theorem alloc_cell {w : World} {p : Addr} {v : Value} (h : w.cell? p = some v) (o : Obj) : (w.alloc o).cell? p = some v :=
  (World.cell?_of_block (w := w) (Below.heap_alloc w o _ (World.block_lt_of_cell? w p h))).trans h
/-- where the slots lie. -/
theorem SRep.opened {w : World} {s : Nat} {F : List Nat} {lim n : Int} {L : List Slot} (h : SRep w s F lim L n) : ∃ A cap, w.cell? ⟨s, 1, none⟩ = some (.slice A L.length cap) ∧ L.length ≤ cap ∧ cap ≤ 9223372036854775807 ∧
    (0 < L.length → ∃ b off, A = some ⟨b, off, none⟩ ∧ ∀ k d, L[k]? = some d → w.cell? ⟨b, off + k * 3, none⟩ = some (.int .i64 d.1) ∧ w.cell? ⟨b, off + k * 3 + 1, none⟩ = some (.bool d.2.1) ∧ w.cell? ⟨b, off + k * 3 + 2, none⟩ = some (.int .i64 d.2.2)) := by
  obtain ⟨vs, h1, h2, -⟩ := h
  obtain ⟨A, cap, rfl, hl, hm, -⟩ := h2.form
  refine ⟨A, cap, by simpa using h1.cell 1, hl, by simpa [maxLen] using hm, fun hp => ?_⟩
  obtain ⟨b, off, cap', hv, -, -, hc, -⟩ := h2.open_ hp
  injection hv with hA
  subst hA
  refine ⟨b, off, rfl, fun k d hd => ?_⟩
  obtain ⟨g0, g1, g2⟩ := slotsV_get L k d hd
  exact ⟨hc _ _ g0, by rw [Nat.add_assoc]; exact hc _ _ g1, by rw [Nat.add_assoc]; exact hc _ _ g2⟩
theorem at_nil (i g : Int) (w : World) : Calls Try.prog 71 #[.pointer none, .agg #[.int .i64 i, .int .i64 g]] w fun e w' => e = .returned (.pointer none) ∧ Keeps [] w w' := by
  go_enter Try.func71, Try.ntmps71
  go_wp2_with fail
  go_quiet (fail)
  go_wp2
  go_ret
  exact ⟨rfl, ((Keeps.refl [] w).alloc _).drewN _⟩
theorem at_hit (s : Nat) (k : Nat) (g : Int) (b off n cap : Nat) (w : World) (hv : w.cell? ⟨s, 1, none⟩ = some (.slice (some ⟨b, off, none⟩) n cap)) (hk : k < n)
    (hg : w.cell? ⟨b, off + k * 3, none⟩ = some (.int .i64 g)) (hu : w.cell? ⟨b, off + k * 3 + 1, none⟩ = some (.bool true)) :
    Calls Try.prog 71 #[.pointer (some ⟨s, 0, none⟩), .agg #[.int .i64 k, .int .i64 g]] w fun e w' => e = .returned (.pointer (some ⟨b, off + k * 3, none⟩)) ∧ Keeps [] w w' := by
  have hki : (k : Int) < n := by omega
  have n1 := fun o => alloc_cell hv o
  have n2 := fun o => alloc_cell hg o
  have n3 := fun o => alloc_cell hu o
  clear hv hg hu
  go_enter Try.func71, Try.ntmps71
  go_wp2_with fail
  go_quiet (fail)
  go_wp2_with fail
  go_quiet (fail)
  go_wp2_with fail
  go_quiet (fail)
  go_wp2_with fail
  go_ret
  exact ⟨rfl, by (repeat (first | exact Keeps.refl _ _ | apply Keeps.drewN | apply Keeps.alloc))⟩
theorem at_out (s : Nat) (i g : Int) (A : Option Addr) (n cap : Nat) (w : World) (hv : w.cell? ⟨s, 1, none⟩ = some (.slice A n cap)) (hi : i < 0 ∨ (0 ≤ i ∧ (n : Int) ≤ i)) :
    Calls Try.prog 71 #[.pointer (some ⟨s, 0, none⟩), .agg #[.int .i64 i, .int .i64 g]] w fun e w' => e = .returned (.pointer none) ∧ Keeps [] w w' := by
  have n1 := fun o => alloc_cell hv o
  clear hv
  rcases hi with h | ⟨h0, h⟩
  · have hd : decide (i < 0) = true := by simpa using h
    go_enter Try.func71, Try.ntmps71
    go_wp2_with fail
    go_quiet (fail)
    go_wp2_with fail
    go_ret
    exact ⟨rfl, by (repeat (first | exact Keeps.refl _ _ | apply Keeps.drewN | apply Keeps.alloc))⟩
  · have hd : decide (i < 0) = false := by simp; omega
    have hd2 : decide ((n : Int) ≤ i) = true := by simpa using h
    go_enter Try.func71, Try.ntmps71
    go_wp2_with fail
    go_quiet (fail)
    go_wp2_with fail
    go_ret
    exact ⟨rfl, by (repeat (first | exact Keeps.refl _ _ | apply Keeps.drewN | apply Keeps.alloc))⟩
theorem at_miss (s : Nat) (k : Nat) (g g' : Int) (u : Bool) (b off n cap : Nat) (w : World) (hv : w.cell? ⟨s, 1, none⟩ = some (.slice (some ⟨b, off, none⟩) n cap)) (hk : k < n)
    (hg : w.cell? ⟨b, off + k * 3, none⟩ = some (.int .i64 g')) (hu : w.cell? ⟨b, off + k * 3 + 1, none⟩ = some (.bool u)) (hm : u = false ∨ (u = true ∧ g' ≠ g)) :
    Calls Try.prog 71 #[.pointer (some ⟨s, 0, none⟩), .agg #[.int .i64 k, .int .i64 g]] w fun e w' => e = .returned (.pointer none) ∧ Keeps [] w w' := by
  have hki : (k : Int) < n := by omega
  rcases hm with rfl | ⟨rfl, hne⟩
  all_goals
    have n1 := fun o => alloc_cell hv o
    have n2 := fun o => alloc_cell hg o
    have n3 := fun o => alloc_cell hu o
    clear hv hg hu
    try have hd : (g' == g) = false := by simpa using hne
    go_enter Try.func71, Try.ntmps71
    go_wp2_with fail
    go_quiet (fail)
    go_wp2_with fail
    go_quiet (fail)
    go_wp2_with fail
    go_quiet (fail)
    go_wp2_with fail
    go_ret
    exact ⟨rfl, by (repeat (first | exact Keeps.refl _ _ | apply Keeps.drewN | apply Keeps.alloc))⟩
end Go.Proofs.Ytkeffebcmajhmaa
