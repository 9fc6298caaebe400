/- What the net's calls make of it, in plain words; what a call that changes one connection leaves. -/
import Derived.Test.YtkeffebcmajhmaaNet4
namespace Go.Proofs.Ytkeffebcmajhmaa
open Go.RowKit
set_option linter.unusedVariables false
def cnAt (N : NS) (c : Int) : Option (Nat × Cn) := if 0 ≤ c then (N.cs[c.toNat]?).map (fun d => (c.toNat, d)) else none
def NS.upd (N : NS) (i : Nat) (d : Cn) : NS := { N with cs := N.cs.set i d }
def onConn {α : Type} (N : NS) (c : Int) (f : Cn → Cn × α) (dflt : α) : NS × α := match cnAt N c with
  | none => (N, dflt)
  | some (i, d) => (N.upd i (f d).1, (f d).2)
def halfD (d : Cn) : Cn × Int := if theirsD d = 0 then (if d.halved = true then (d, 0) else ({ d with halved := true, reads := d.reads + 1 }, 0)) else (d, theirsD d)
def brokenD (d : Cn) : Cn := { d with broken := true, inn := [], window := 0 }
def resetD (d : Cn) : Cn × Int := if theirsD d = 0 then ({ d with broken := true, inn := [], window := 0, reads := d.reads + 1, writes := d.writes + 1 }, 0) else (d, theirsD d)
def openD (b : Int) (d : Cn) : Cn × Int := if theirsD d = 0 then ({ d with window := d.window + min b (1099511627776 - d.window), writes := if 0 < b then d.writes + 1 else d.writes }, 0) else (d, theirsD d)
def shutD (d : Cn) : Cn × Int := if oursD d = 0 then ({ d with shut := true }, 0) else (d, oursD d)
def sendD (rows : List (List Int)) (d : Cn) : Cn × Int × Int :=
  if theirsD d = 0 then (if d.halved = true then (d, 0, 6) else ({ d with inn := (d.inn ++ rows.flatten).take 1024, reads := if 0 < ((d.inn ++ rows.flatten).take 1024).length - d.inn.length then d.reads + 1 else d.reads }, ((((d.inn ++ rows.flatten).take 1024).length - d.inn.length : Nat) : Int), 0))
  else (d, 0, theirsD d)
def readD (most : Nat) (d : Cn) : Cn × List Int × Int :=
  if oursD d = 0 then (if d.inn = [] ∧ d.halved = false then (d, [], 4) else ({ d with inn := d.inn.drop most, told := d.told ++ d.inn.take most }, d.inn.take most, 0)) else (d, [], oursD d)
def writeD (b : List Int) (d : Cn) : Cn × Int × Int :=
  if oursD d = 0 then (if d.shut = true then (d, 0, 6) else if b = [] then (d, 0, 0) else if d.window = 0 then (d, 0, 4) else
    ({ d with got := d.got ++ b.take (min b.length d.window.toNat), window := d.window - (min b.length d.window.toNat : Nat) }, ((min b.length d.window.toNat : Nat) : Int), 0)) else (d, 0, oursD d)
def halfN (N : NS) (c : Int) : NS × Int := onConn N c halfD 2
def resetN (N : NS) (c : Int) : NS × Int := onConn N c resetD 2
def openN (N : NS) (c b : Int) : NS × Int := if b < 0 then (N, 1) else onConn N c (openD b) 2
def shutN (N : NS) (c : Int) : NS × Int := onConn N c shutD 2
def sendN (N : NS) (c : Int) (rows : List (List Int)) : NS × Int × Int := onConn N c (sendD rows) (0, 2)
def readN (N : NS) (c most : Int) : NS × List Int × Int := if most < 1 then (N, [], 1) else onConn N c (readD most.toNat) ([], 2)
def writeN (N : NS) (c : Int) (b : List Int) : NS × Int × Int := onConn N c (writeD b) (0, 2)
def acceptN (N : NS) : NS × Int × Int × Int :=
  if N.stopped = true then (N, 0, 0, 6) else match N.queue with
    | [] => (N, 0, 0, 2)
    | q :: rest => if 0 < N.fails then ({ N with fails := N.fails - 1 }, 0, 0, 7) else match N.cs[q]? with
      | none => (N, 0, 0, 0)
      | some d => ({ N with queue := rest, cs := N.cs.set q { d with waits := false, opn := true, taken := true }, nopen := N.nopen + 1 }, (q : Int), d.peer, 0)
def close1 (N : NS) (c : Int) : NS × Int := match cnAt N c with
  | none => (N, 0)
  | some (i, d) => if d.opn = true then ({ N with cs := N.cs.set i { d with opn := false }, nopen := N.nopen - 1 }, 1) else (N, 0)
def closeN (N : NS) : List Int → NS × Int
  | [] => (N, 0)
  | c :: l => ((closeN (close1 N c).1 l).1, (close1 N c).2 + (closeN (close1 N c).1 l).2)
def stop1 (N : NS) (q : Nat) : NS := match N.cs[q]? with
  | none => N
  | some d => N.upd q { d with broken := true, inn := [], window := 0, waits := false }
def stopN (N : NS) : NS := { (N.queue.foldl stop1 { N with stopped := true }) with queue := [] }
def readyN (N : NS) (c : Int) : Bool × Bool := if c = -1 then (decide (0 < N.queue.length), false) else match cnAt N c with
  | none => (false, false)
  | some (_, d) => if d.opn = true then (decide (0 < d.inn.length) || d.halved || d.broken, (decide (0 < d.window) && !d.shut) || d.broken) else (false, false)
def marksN (N : NS) (c : Int) : Int × Int := if c = -1 then (N.marks, 0) else match cnAt N c with
  | none => (0, 0)
  | some (_, d) => (d.reads, d.writes)
def gotN (N : NS) (c : Int) : List Int × Bool := match cnAt N c with
  | none => ([], false)
  | some (_, d) => (d.got, d.shut || d.broken || (d.taken && !d.opn))
def takenN (N : NS) (c : Int) : List Int := match cnAt N c with
  | none => []
  | some (_, d) => d.told
def stateN (N : NS) (c : Int) : Bool × Bool × Bool × Int := match cnAt N c with
  | none => (false, false, false, 0)
  | some (_, d) => (d.waits, d.opn, d.broken, d.peer)
theorem upd_self {N : NS} {i : Nat} {d : Cn} (h : N.cs[i]? = some d) : N.upd i d = N := by
  unfold NS.upd
  rw [set_self _ _ _ h]
theorem cnAt_some {N : NS} {i : Nat} {d : Cn} (h : N.cs[i]? = some d) : cnAt N i = some (i, d) := by
  unfold cnAt
  rw [if_pos (by omega), Int.toNat_natCast, h]
  rfl
theorem cnAt_none {N : NS} {c : Int} (h : c < 0 ∨ (0 ≤ c ∧ (N.cs.length : Int) ≤ c)) : cnAt N c = none := by
  unfold cnAt
  split
  · rw [List.getElem?_eq_none (by omega)]
    rfl
  · rfl
theorem onConn_some {α : Type} {N : NS} {i : Nat} {d : Cn} (h : N.cs[i]? = some d) (f : Cn → Cn × α) (x : α) : onConn N i f x = (N.upd i (f d).1, (f d).2) := by
  unfold onConn
  rw [cnAt_some h]
theorem onConn_none {α : Type} {N : NS} {c : Int} (h : c < 0 ∨ (0 ≤ c ∧ (N.cs.length : Int) ≤ c)) (f : Cn → Cn × α) (x : α) : onConn N c f x = (N, x) := by
  unfold onConn
  rw [cnAt_none h]
/-! ### what stays sound -/
theorem countP_set {l : List Cn} {i : Nat} {d d' : Cn} (h : l[i]? = some d) (he : d'.opn = d.opn) : (l.set i d').countP (·.opn) = l.countP (·.opn) := by
  induction l generalizing i with
  | nil => simp at h
  | cons e l ih =>
    cases i with
    | zero =>
      simp at h
      subst h
      simp [List.countP_cons, he]
    | succ i =>
      simp only [List.set_cons_succ, List.countP_cons]
      rw [ih (by simpa using h)]
theorem mem_set {l : List Cn} {i : Nat} {d' e : Cn} (h : e ∈ l.set i d') : e ∈ l ∨ e = d' := List.mem_or_eq_of_mem_set h
theorem OkN.upd {N : NS} {B B' : Int} {i : Nat} {d d' : Cn} (h : OkN N B) (hB : B ≤ B') (hd : N.cs[i]? = some d) (h1 : d'.opn = d.opn) (h2 : d'.waits = d.waits) (hc : CnOk d' B') : OkN (N.upd i d') B' := by
  refine ⟨h.b0, h.b1, h.ql, h.qn, fun q hq => ?_, by simpa [NS.upd] using h.cl, h.f0, h.f1, h.m0, Int.le_trans h.m1 hB, ?_, fun e he => ?_⟩
  · obtain ⟨e, he, hw⟩ := h.qw q hq
    by_cases hqi : q = i
    · subst hqi
      rw [hd] at he
      injection he with he
      subst he
      have hlt := (List.getElem?_eq_some_iff.1 hd).1
      exact ⟨d', by simp only [NS.upd]; rw [List.getElem?_set_self hlt], by rw [h2, hw.1], by rw [h1, hw.2]⟩
    · exact ⟨e, by simp only [NS.upd]; rw [List.getElem?_set_ne (by omega)]; exact he, hw⟩
  · simp only [NS.upd]
    rw [countP_set hd h1]
    exact h.op
  · rcases mem_set he with he | rfl
    · exact (h.cn e he).mono hB
    · exact hc
theorem OkN.on {α : Type} {N : NS} {B B' : Int} {c : Int} {f : Cn → Cn × α} {x : α} (h : OkN N B) (hB : B ≤ B') (hf : ∀ d, CnOk d B → (f d).1.opn = d.opn ∧ (f d).1.waits = d.waits ∧ CnOk (f d).1 B') : OkN (onConn N c f x).1 B' := by
  unfold onConn
  split
  · exact h.mono hB
  · rename_i i d hc
    unfold cnAt at hc
    split at hc
    · obtain ⟨d0, h0, h1⟩ := Option.map_eq_some_iff.1 hc
      injection h1 with h1 h2
      subst h1 h2
      obtain ⟨g1, g2, g3⟩ := hf d0 (h.cn d0 (List.mem_of_getElem? h0))
      exact h.upd hB h0 g1 g2 g3
    · cases hc
theorem okN_half {N : NS} {B : Int} (h : OkN N B) (c : Int) : OkN (halfN N c).1 (B + 1) := h.on (by omega) fun d hd => by
  unfold halfD
  split
  · split
    · exact ⟨rfl, rfl, hd.mono (by omega)⟩
    · exact ⟨rfl, rfl, hd.inn, hd.w0, hd.w1, by have := hd.r0; simp only; omega, by have := hd.r1; simp only; omega, hd.s0, by have := hd.s1; simp only; omega, by have := hd.got; simp only; omega, by have := hd.told; simp only; omega⟩
  · exact ⟨rfl, rfl, hd.mono (by omega)⟩
theorem okN_reset {N : NS} {B : Int} (h : OkN N B) (c : Int) : OkN (resetN N c).1 (B + 1) := h.on (by omega) fun d hd => by
  unfold resetD
  split
  · exact ⟨rfl, rfl, by simp, by simp, by simp, by have := hd.r0; simp only; omega, by have := hd.r1; simp only; omega, by have := hd.s0; simp only; omega, by have := hd.s1; simp only; omega, by have := hd.got; simp only; omega, by have := hd.told; simp only; omega⟩
  · exact ⟨rfl, rfl, hd.mono (by omega)⟩
theorem okN_open {N : NS} {B : Int} (h : OkN N B) (c b : Int) : OkN (openN N c b).1 (B + 1) := by
  unfold openN
  split
  · exact h.mono (by omega)
  · refine h.on (by omega) fun d hd => ?_
    unfold openD
    split
    · have h0 := hd.w0
      have h1 := hd.w1
      have hs0 := hd.s0
      have hs1 := hd.s1
      exact ⟨rfl, rfl, hd.inn, by simp only; omega, by simp only; omega, hd.r0, by have := hd.r1; simp only; omega, by simp only; split <;> omega, by simp only; split <;> omega, by have := hd.got; simp only; omega, by have := hd.told; simp only; omega⟩
    · exact ⟨rfl, rfl, hd.mono (by omega)⟩
theorem okN_shut {N : NS} {B : Int} (h : OkN N B) (c : Int) : OkN (shutN N c).1 B := h.on (by omega) fun d hd => by
  unfold shutD
  split
  · exact ⟨rfl, rfl, hd.inn, hd.w0, hd.w1, hd.r0, hd.r1, hd.s0, hd.s1, hd.got, hd.told⟩
  · exact ⟨rfl, rfl, hd⟩
theorem okN_send {N : NS} {B : Int} (h : OkN N B) (c : Int) (rows : List (List Int)) : OkN (sendN N c rows).1 (B + 1) := h.on (by omega) fun d hd => by
  unfold sendD
  have h0 := hd.r0
  have h1 := hd.r1
  split
  · split
    · exact ⟨rfl, rfl, hd.mono (by omega)⟩
    · exact ⟨rfl, rfl, by simp only [List.length_take]; omega, hd.w0, hd.w1, by simp only; split <;> omega, by simp only; split <;> omega, hd.s0, by have := hd.s1; simp only; omega, by have := hd.got; simp only; omega, by have := hd.told; simp only; omega⟩
  · exact ⟨rfl, rfl, hd.mono (by omega)⟩
theorem okN_read {N : NS} {B : Int} (h : OkN N B) (c most : Int) : OkN (readN N c most).1 (B + 1024) := by
  unfold readN
  split
  · exact h.mono (by omega)
  · refine h.on (by omega) fun d hd => ?_
    have h0 := hd.inn
    have h1 := hd.told
    unfold readD
    split
    · split
      · exact ⟨rfl, rfl, hd.mono (by omega)⟩
      · exact ⟨rfl, rfl, by simp only [List.length_drop]; omega, hd.w0, hd.w1, hd.r0, by have := hd.r1; simp only; omega, hd.s0, by have := hd.s1; simp only; omega, by have := hd.got; simp only; omega, by simp only [List.length_append, List.length_take]; omega⟩
    · exact ⟨rfl, rfl, hd.mono (by omega)⟩
theorem okN_write {N : NS} {B : Int} (h : OkN N B) (c : Int) (b : List Int) : OkN (writeN N c b).1 (B + b.length) := h.on (by omega) fun d hd => by
  have h0 := hd.w0
  have h1 := hd.w1
  have h2 := hd.got
  unfold writeD
  split
  · split
    · exact ⟨rfl, rfl, hd.mono (by omega)⟩
    · split
      · exact ⟨rfl, rfl, hd.mono (by omega)⟩
      · split
        · exact ⟨rfl, rfl, hd.mono (by omega)⟩
        · exact ⟨rfl, rfl, hd.inn, by simp only; omega, by simp only; omega, hd.r0, by have := hd.r1; simp only; omega, hd.s0, by have := hd.s1; simp only; omega, by simp only [List.length_append, List.length_take]; omega, by have := hd.told; simp only; omega⟩
  · exact ⟨rfl, rfl, hd.mono (by omega)⟩
theorem countP_open {l : List Cn} {i : Nat} {d d' : Cn} (h : l[i]? = some d) (h0 : d.opn = false) (h1 : d'.opn = true) : (l.set i d').countP (·.opn) = l.countP (·.opn) + 1 := by
  induction l generalizing i with
  | nil => simp at h
  | cons e l ih =>
    cases i with
    | zero =>
      simp at h
      subst h
      simp [h0, h1]
    | succ i =>
      simp only [List.set_cons_succ, List.countP_cons]
      rw [ih (by simpa using h)]
      omega
theorem countP_close {l : List Cn} {i : Nat} {d d' : Cn} (h : l[i]? = some d) (h0 : d.opn = true) (h1 : d'.opn = false) : (l.set i d').countP (·.opn) + 1 = l.countP (·.opn) := by
  induction l generalizing i with
  | nil => simp at h
  | cons e l ih =>
    cases i with
    | zero =>
      simp at h
      subst h
      simp [h0, h1]
    | succ i =>
      simp only [List.set_cons_succ, List.countP_cons]
      rw [← ih (by simpa using h)]
      omega
theorem okN_accept {N : NS} {B : Int} (h : OkN N B) : OkN (acceptN N).1 B := by
  unfold acceptN
  split
  · exact h
  · split
    · exact h
    · rename_i q rest hq
      split
      · exact ⟨h.b0, h.b1, h.ql, h.qn, h.qw, h.cl, by simp only; omega, by have := h.f1; simp only; omega, h.m0, h.m1, h.op, h.cn⟩
      · obtain ⟨d, hd, hw, ho⟩ := h.qw q (by rw [hq]; simp)
        rw [hd]
        simp only
        have hnd := h.qn
        rw [hq, List.nodup_cons] at hnd
        refine ⟨h.b0, h.b1, ?_, hnd.2, fun r hr => ?_, by simpa using h.cl, h.f0, h.f1, h.m0, h.m1, ?_, fun e he => ?_⟩
        · have := h.ql
          rw [hq] at this
          simp at this
          simp only
          omega
        · have hrq : r ≠ q := fun e => hnd.1 (e ▸ hr)
          obtain ⟨e, he, hw⟩ := h.qw r (by rw [hq]; exact List.mem_cons_of_mem _ hr)
          exact ⟨e, by simp only; rw [List.getElem?_set_ne (by omega)]; exact he, hw⟩
        · simp only
          rw [countP_open hd ho rfl, h.op]
          push_cast
          rfl
        · rcases mem_set he with he | rfl
          · exact h.cn e he
          · have := h.cn d (List.mem_of_getElem? hd)
            exact ⟨this.inn, this.w0, this.w1, this.r0, this.r1, this.s0, this.s1, this.got, this.told⟩
theorem okN_close1 {N : NS} {B : Int} (h : OkN N B) (c : Int) : OkN (close1 N c).1 B := by
  unfold close1
  split
  · exact h
  · rename_i i d hc
    split
    · rename_i ho
      unfold cnAt at hc
      split at hc
      · obtain ⟨d0, h0, h1⟩ := Option.map_eq_some_iff.1 hc
        injection h1 with h1 h2
        subst h1 h2
        refine ⟨h.b0, h.b1, h.ql, h.qn, fun q hq => ?_, by simpa using h.cl, h.f0, h.f1, h.m0, h.m1, ?_, fun e he => ?_⟩
        · obtain ⟨e, he, hw⟩ := h.qw q hq
          have hqi : q ≠ c.toNat := by
            rintro rfl
            rw [h0] at he
            injection he with he
            subst he
            rw [hw.2] at ho
            cases ho
          exact ⟨e, by simp only; rw [List.getElem?_set_ne (by omega)]; exact he, hw⟩
        · simp only
          have := countP_close (d' := { d0 with opn := false }) h0 ho rfl
          rw [h.op]
          omega
        · rcases mem_set he with he | rfl
          · exact h.cn e he
          · have := h.cn d0 (List.mem_of_getElem? h0)
            exact ⟨this.inn, this.w0, this.w1, this.r0, this.r1, this.s0, this.s1, this.got, this.told⟩
      · cases hc
    · exact h
theorem okN_close {N : NS} {B : Int} (l : List Int) (h : OkN N B) : OkN (closeN N l).1 B := by
  induction l generalizing N with
  | nil => exact h
  | cons c l ih => exact ih (okN_close1 h c)
theorem NDone.post_drewN {c : Cfg} {w w' : World} {n : Nat} {F : List Nat} {N : NS} (h : NDone c w n F N w') (k : Nat) : NDone c w n F N (w'.drewN k) := by
  obtain ⟨⟨F', h1, h2⟩, h3⟩ := h
  exact ⟨⟨F', h1.keeps ((Keeps.refl [] w').drewN k) (by simp), h2⟩, h3.drewN k⟩
theorem NDone.after {c : Cfg} {w w1 w' : World} {n : Nat} {F : List Nat} {own : Nat → Nat} {ps : List Nat} {vc vq : Value} {N N' : NS} (h : NAt c w1 n F own ps vc vq N) (hk : Keeps [] w w1) (hd : NDone c w1 n F N' w') : NDone c w n F N' w' := by
  obtain ⟨⟨F', h1, h2⟩, h3⟩ := hd
  refine ⟨⟨F', h1, fun k hk' => ?_⟩, (hk.mono (G := F) (by simp)).trans h3 (fun g hg => .inl hg)⟩
  · rcases h2 k hk' with e | e
    · exact .inl e
    · have := hk.size
      exact .inr (by omega)
/-! ### one connection's cells have changed -/
theorem NAt.cells {c : Cfg} {w w' : World} {n : Nat} {F : List Nat} {own : Nat → Nat} {ps : List Nat} {vc vq : Value} {N : NS} {i p : Nat} {d : Cn} {vi vo vt : Value} (h : NAt c w n F own ps vc vq N) (hp : ps[i]? = some p) (hd : N.cs[i]? = some d) (hc : CAt c w own i p d vi vo vt)
    (hk : Keeps [p] w w') (d' : Cn) (vi' : Value) (hl : c.nlay (N.upd i d') vc vq = c.nlay N vc vq) (hb : Blk w' p c.T (c.lay d' vi' vo vt)) (hvi : (vi' = vi ∧ d'.inn = d.inn) ∨ (vi' = .slice none 0 0 ∧ d'.inn = [])) (hg : d'.got = d.got) (ht : d'.told = d.told) :
    NDone c w n F (N.upd i d') w' := by
  obtain ⟨h1, h2, h3, h4, h5⟩ := hc
  have hnp : n ≠ p := fun e => by
    have := h.tn
    rw [e, h2] at this
    omega
  have hpF : p ∈ F := h.ftag p (by omega)
  refine ⟨h.put (G := [p]) (d' := d') (vi := vi') (vo := vo) (vt := vt) (vq' := vq) hp rfl hk ?_ h2 h1.lt ?_ ?_ hb ?_ ?_ ?_ ?_ ?_ ?_ ?_ ?_, hk.mono (by simp; exact hpF)⟩
  · intro k hk' _
    simp at hk'
    subst hk'
    omega
  · rw [hl]
    exact h.blk.keeps hk (by simpa using hnp)
  · exact h.rq.keeps hk (fun k e hx => by
      simp at hx
      subst hx
      have := h.oq k e
      omega)
  · rcases hvi with ⟨rfl, e⟩ | ⟨rfl, e⟩
    · rw [e]
      exact h3.1.keeps hk (fun k e hx => by
        simp at hx
        subst hx
        have := h3.2 k e
        omega)
    · rw [e]
      exact Row.nil _ _ _
  · rw [hg]
    exact h4.1.keeps hk (fun k e hx => by
      simp at hx
      subst hx
      have := h4.2 k e
      omega)
  · rw [ht]
    exact h5.1.keeps hk (fun k e hx => by
      simp at hx
      subst hx
      have := h5.2 k e
      omega)
  · intro k e
    rcases hvi with ⟨rfl, -⟩ | ⟨rfl, -⟩
    · exact .inl ⟨h3.1.lt k e, h3.2 k e⟩
    · simp [Value.ownBlock] at e
  · exact fun k e => .inl ⟨h4.1.lt k e, h4.2 k e⟩
  · exact fun k e => .inl ⟨h5.1.lt k e, h5.2 k e⟩
  · exact fun k e => .inl ⟨h.rq.lt k e, h.oq k e⟩
  · intro k hge
    have a := fun e => h4.1.lt k e
    have b := fun e => h5.1.lt k e
    refine ⟨fun e => ?_, fun e => ?_, fun e => ?_⟩
    · rcases hvi with ⟨rfl, -⟩ | ⟨rfl, -⟩
      · have := h3.1.lt k e
        omega
      · simp [Value.ownBlock] at e
    · have := a e
      omega
    · have := b e
      omega
end Go.Proofs.Ytkeffebcmajhmaa
