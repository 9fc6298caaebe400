/- The poller's map: Handles to what is watched. Its look-ups, stores, deletes, ranges by law. -/
import Derived.Test.YtkeffebcmajhmaaNet17
import Derived.Test.YtkeffebcmajhmaaSlab8
import Derived.Maps.RangeRun
import Derived.Maps.RangeWalk
import Derived.Maps.OwnOps
import Derived.Laws.StructEq
namespace Go.Proofs.Ytkeffebcmajhmaa
open Go.RowKit
open Go.ChangeMaps (setBlock)
set_option linter.unusedVariables false
theorem run_eqH (a b c d : Int) (w : World) : (Op.equal 30 (.agg #[.int .i64 a, .int .i64 b]) (.agg #[.int .i64 c, .int .i64 d])).run Try.prog w = .ok (a == c && b == d) w := by
  have hp0 : ∀ (x y : Int) (w : World), (part 3 #[.int .i64 x, .int .i64 y] 0).run Try.prog w = .ok (.int .i64 x) w := fun _ _ _ => by kernel_rfl
  have hp1 : ∀ (x y : Int) (w : World), (part 3 #[.int .i64 x, .int .i64 y] 1).run Try.prog w = .ok (.int .i64 y) w := fun _ _ _ => by kernel_rfl
  have he : ∀ (x y : Int) (w : World), (Op.equalIn 9999 3 (.int .i64 x) (.int .i64 y)).run Try.prog w = .ok (x == y) w := fun x y w => run_equalIn_int w 9998 3 .i64 .i64 x y Try.underlying3
  show (Op.equalIn (9999 + 1) _ _ _).run _ _ = _
  rw [run_equalIn_struct w 9999 30 _ _ (by simp [Program.fieldsOf, Try.underlying30]) (by kernel_rfl)]
  simp [Program.fieldsOf, Try.underlying30, Op.eqFields, hp0, hp1, he]
  by_cases h1 : a = c <;> by_cases h2 : b = d <;> simp [h1, h2]
theorem run_ckH (e : Bool) (a b : Int) (w : World) : (Instr.checkKey e 10000 30 (.agg #[.int .i64 a, .int .i64 b])).run Try.prog w = .ok () w := by
  kernel_rfl
theorem run_zvW (w : World) : (zeroValue 151).run Try.prog w = .ok (.pointer none) w := by kernel_rfl
/-- an entry: a Handle, the block of what is watched, when it was born. -/
structure PE where
  s : Int
  g : Int
  p : Nat
  b : Nat
def PE.me (e : PE) : MapEntry := { key := .agg #[.int .i64 e.s, .int .i64 e.g], val := .pointer (some ⟨e.p, 0, none⟩), born := e.b }
def PE.is (s g : Int) (e : PE) : Bool := e.s == s && e.g == g
def MapB (w : World) (m : Nat) (es : List PE) (clock : Nat) : Prop := w.heap[m]? = some (.map (es.map PE.me).toArray clock)
theorem run_findH (s g : Int) (w : World) : ∀ (es : List PE) (i : Nat), (Instr.findAsking 30 (.agg #[.int .i64 s, .int .i64 g]) (es.map PE.me) i).run Try.prog w =
    .ok ((es.findIdx? (PE.is s g)).map fun j => (i + j, .pointer (some ⟨(es.getD j ⟨0, 0, 0, 0⟩).p, 0, none⟩))) w := by
  intro es
  induction es with
  | nil => intro i; simp [Instr.findAsking]
  | cons e es ih =>
    intro i
    simp only [List.map_cons, Instr.findAsking, PE.me, Sem.run_bind, run_eqH, Result.andThen_ok]
    have hs : (s == e.s && g == e.g) = PE.is s g e := by
      unfold PE.is
      rw [Bool.eq_iff_iff]
      simp only [Bool.and_eq_true, beq_iff_eq]
      constructor <;> rintro ⟨h1, h2⟩ <;> exact ⟨h1.symm, h2.symm⟩
    rw [hs, List.findIdx?_cons]
    cases h : PE.is s g e with
    | true => simp
    | false =>
      have := ih (i + 1)
      simp [this]
      cases es.findIdx? (PE.is s g) with
      | none => simp
      | some j => simp; omega
theorem run_findKeyH (s g : Int) (w : World) (es : List PE) : (Instr.findKey 30 (.agg #[.int .i64 s, .int .i64 g]) (es.map PE.me)).run Try.prog w =
    .ok ((es.findIdx? (PE.is s g)).map fun j => (j, .pointer (some ⟨(es.getD j ⟨0, 0, 0, 0⟩).p, 0, none⟩))) w := by
  have hf := run_findH s g w es 0
  simp only [Nat.zero_add] at hf
  unfold Instr.findKey
  simp only [Sem.run_bind, run_underlying Try.underlying30, Result.andThen_ok]
  cases es with
  | nil => simp [Instr.findNow]
  | cons e es => simpa [Instr.findNow, Instr.sameNow, PE.me] using hf
/-- what is under a Handle. -/
def lookE (es : List PE) (s g : Int) : Value := match es.findIdx? (PE.is s g) with
  | some j => .pointer (some ⟨(es.getD j ⟨0, 0, 0, 0⟩).p, 0, none⟩)
  | none => .pointer none
theorem run_lookH {w : World} {m clock : Nat} {es : List PE} (h : MapB w m es clock) (s g : Int) : (Instr.lookup 91 (.map (some m)) (.agg #[.int .i64 s, .int .i64 g]) false).run Try.prog w = .ok (lookE es s g) w := by
  unfold MapB at h
  have hfk := run_findKeyH s g w es
  unfold Instr.lookup
  simp only [Sem.run_bind, run_underlying Try.underlying91, Result.andThen_ok, getObj, Sem.run, h, run_ckH, Sem.run_pure, hfk]
  unfold lookE
  cases es.findIdx? (PE.is s g) with
  | none => simp
  | some j => simp
section
variable {w w' : World} {m clock : Nat} {es : List PE}
theorem MapB.lt (h : MapB w m es clock) : m < w.heap.size := by
  rcases Nat.lt_or_ge m w.heap.size with hlt | hge
  · exact hlt
  · unfold MapB at h; rw [Array.getElem?_eq_none hge] at h; cases h
theorem MapB.keeps {F : List Nat} (h : MapB w m es clock) (hk : Keeps F w w') (hm : m ∉ F) : MapB w' m es clock := (hk.block m h.lt hm).trans h
theorem MapB.drewN (h : MapB w m es clock) (n : Nat) : MapB (w.drewN n) m es clock := h
theorem MapB.drew (h : MapB w m es clock) : MapB w.drew m es clock := h
theorem keeps_setBlock {b : Nat} (o : Obj) (hb : b < w.heap.size) : Keeps [b] w (setBlock w b o) := by
  refine ⟨rfl, rfl, rfl, by simp [setBlock], fun k hk hF => ?_⟩
  simp at hF
  simp [setBlock, Ne.symm hF]
theorem get_setBlock {b : Nat} (o : Obj) (hb : b < w.heap.size) : (setBlock w b o).heap[b]? = some o := by
  simp [setBlock, hb]
theorem run_setObj_map (h : MapB w m es clock) (o' : Obj) : (setObj m o').run Try.prog w = .ok () (setBlock w m o') := by
  unfold MapB at h
  simp [setObj, Sem.run, h, setBlock]
theorem mapB_set {b clock' : Nat} (es' : List PE) (hb : b < w.heap.size) : MapB (setBlock w b (.map (es'.map PE.me).toArray clock')) b es' clock' := get_setBlock _ hb
/-- a Handle that is not there comes in. -/
theorem run_storeH (h : MapB w m es clock) (s g : Int) (p : Nat) (hn : es.findIdx? (PE.is s g) = none) :
    ∃ w', (Instr.mapUpdate 91 (.map (some m)) (.agg #[.int .i64 s, .int .i64 g]) (.pointer (some ⟨p, 0, none⟩))).run Try.prog w = .ok () w' ∧ MapB w' m (es ++ [⟨s, g, p, clock⟩]) (clock + 1) ∧ Keeps [m] w w' := by
  have h0 := h
  have hfk := run_findKeyH s g w es
  rw [hn] at hfk
  unfold MapB at h
  refine ⟨setBlock w m (.map ((es ++ [(⟨s, g, p, clock⟩ : PE)]).map PE.me).toArray (clock + 1)), ?_, mapB_set _ h0.lt, keeps_setBlock _ h0.lt⟩
  unfold Instr.mapUpdate
  simp only [Sem.run_bind, run_underlying Try.underlying91, Result.andThen_ok, getObj, Sem.run, h, run_ckH, hfk, Option.map_none]
  rw [run_setObj_map h0]
  simp [PE.me]
/-- a Handle goes, if it is there. -/
def delE (es : List PE) (s g : Int) : List PE := match es.findIdx? (PE.is s g) with
  | some j => es.eraseIdx j
  | none => es
theorem run_delH (h : MapB w m es clock) (s g : Int) (ty : TypeId) :
    ∃ w', (Builtin.delete_ #[91, 30] ty #[.map (some m), .agg #[.int .i64 s, .int .i64 g]]).run Try.prog w = .ok (.tuple #[]) w' ∧ MapB w' m (delE es s g) clock ∧ Keeps [m] w w' := by
  have h0 := h
  have hfk := run_findKeyH s g w es
  unfold MapB at h
  refine ⟨setBlock w m (.map ((delE es s g).map PE.me).toArray clock), ?_, mapB_set _ h0.lt, keeps_setBlock _ h0.lt⟩
  unfold Builtin.delete_ delE
  cases hj : es.findIdx? (PE.is s g) with
  | none =>
    rw [hj] at hfk
    simp [run_underlying Try.underlying91, getObj, Sem.run, h, run_ckH, hfk, run_setObj_map h0, Result.andThen]
  | some j =>
    rw [hj] at hfk
    have hjl : j < es.length := (List.findIdx?_eq_some_iff_getElem.1 hj).1
    simp [run_underlying Try.underlying91, getObj, Sem.run, h, run_ckH, hfk, run_setObj_map h0, Result.andThen]
    rw [Go.ChangeMaps.map_eraseIdx]
theorem run_lenH (h : MapB w m es clock) (ty : TypeId) : (Builtin.len_ #[91] ty #[.map (some m)]).run Try.prog w = .ok (.int .i64 es.length) w := by
  unfold MapB at h
  simp [Builtin.len_, run_underlying Try.underlying91, getObj, Sem.run, h, goInt, Result.andThen]
theorem run_rangeH (h : MapB w m es clock) : (Instr.range 91 (.map (some m))).run Try.prog w = .ok (.pointer (some ⟨w.heap.size, 0, none⟩)) (w.alloc (.mapIter (some m) clock #[] clock)) := by
  unfold MapB at h
  simp [Instr.range, run_underlying Try.underlying91, getObj, Sem.run, h, newObj, Result.andThen]
/-- the range's step: nothing is left, or one that is left comes. -/
theorem wpList_nextH {ops : Array Oper} {rest : List Oper} {o : Oper} {a : Act} {Q : Exit → Act → World → Prop} (hg : o.guard = none) (it : Operand) (hop : o.op = Op.next it false) {r : Nat} {seen : Array Nat}
    (hit : a.eval it = .pointer (some ⟨r, 0, none⟩)) (hr : w.heap[r]? = some (.mapIter (some m) clock seen clock)) (h : MapB w m es clock) (hb : ∀ e ∈ es, e.b < clock) (hn : (es.map (·.b)).Nodup) (hrm : r ≠ m)
    (hDone : (∀ e ∈ es, seen.contains e.b = true) → wpList Try.prog ops Q rest (a.put o.dst (.tuple #[.bool false])) w)
    (hMore : ∀ e ∈ es, seen.contains e.b = false → ∀ w', w'.heap[r]? = some (.mapIter (some m) clock (seen.push e.b) clock) → Keeps [r] w w' →
      (Instr.entry (.pointer (some ⟨r, 0, none⟩))).run Try.prog w' = .ok (.tuple #[.agg #[.int .i64 e.s, .int .i64 e.g], .pointer (some ⟨e.p, 0, none⟩)]) w' →
      wpList Try.prog ops Q rest (a.put o.dst (.tuple #[.bool true, .agg #[.int .i64 e.s, .int .i64 e.g], .pointer (some ⟨e.p, 0, none⟩)])) w') :
    wpList Try.prog ops Q (o :: rest) a w := by
  have hrl : r < w.heap.size := by
    rcases Nat.lt_or_ge r w.heap.size with hlt | hge
    · exact hlt
    · rw [Array.getElem?_eq_none hge] at hr; cases hr
  refine wpList_plain hg fun K' hK' => ?_
  unfold Oper.wp
  rcases run_next_at (P := Try.prog) w o.type r m clock clock seen (es.map PE.me).toArray clock hr h (fun x hx => by
      simp at hx
      obtain ⟨e, he, rfl⟩ := hx
      exact hb e he) (Nat.le_refl _) with ⟨h0, hrun⟩ | ⟨e, he, w1, hw1, hrun⟩
  · simp [execOp, hop, hit, hrun, Result.andThen]
    refine hK' _ _ (hDone fun e he => ?_)
    cases hc : seen.contains e.b with
    | true => rfl
    | false =>
      have hin : e.me ∈ (leftOf (es.map PE.me).toArray seen) := by
        unfold leftOf
        rw [Array.mem_filter]
        exact ⟨by simpa using ⟨e, he, rfl⟩, by simp [PE.me]; simpa using hc⟩
      have := Array.size_pos_of_mem hin
      omega
  · obtain ⟨hel, hes⟩ := mem_left he
    simp at hel
    obtain ⟨x, hx, rfl⟩ := hel
    have hw1r : w1.heap[r]? = some (.mapIter (some m) clock seen clock) := by rcases hw1 with rfl | rfl <;> exact hr
    have hw1k : Keeps [r] w (setBlock w1 r (.mapIter (some m) clock (seen.push x.b) clock)) := by
      rcases hw1 with rfl | rfl
      · exact keeps_setBlock _ hrl
      · exact (keeps_setBlock (w := w.drew) _ hrl).pre1
    have hgr : (setBlock w1 r (.mapIter (some m) clock (seen.push x.b) clock)).heap[r]? = some (.mapIter (some m) clock (seen.push x.b) clock) := get_setBlock _ (by rcases hw1 with rfl | rfl <;> exact hrl)
    have hmb : MapB (setBlock w1 r (.mapIter (some m) clock (seen.push x.b) clock)) m es clock := h.keeps hw1k (by simpa using Ne.symm hrm)
    have hen := run_entry_at (P := Try.prog) _ r m clock seen (es.map PE.me).toArray clock x.me hgr hmb (by simpa using ⟨x, hx, rfl⟩) (by simpa [List.map_map, Function.comp_def, PE.me] using hn)
    simp [execOp, hop, hit, hrun, Result.andThen]
    exact hK' _ _ (hMore x hx hes _ hgr hw1k hen)
end
end Go.Proofs.Ytkeffebcmajhmaa
