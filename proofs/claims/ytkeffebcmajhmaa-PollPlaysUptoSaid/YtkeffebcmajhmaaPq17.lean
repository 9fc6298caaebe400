/- 'known' of the slab's laws; SlabOfNothing. -/
import Derived.Test.YtkeffebcmajhmaaPq16
import Derived.Test.YtkeffebcmajhmaaPq10
import Derived.Maps.RangeRun
import Derived.Maps.RangeWalk
import Derived.Maps.OwnOps
import Derived.Laws.StructEq
namespace Go.Proofs.Ytkeffebcmajhmaa
open Go.RowKit
set_option linter.unusedVariables false
theorem hs_new {w : World} {F : List Nat} {H : Nat} {t : TypeId} {hs : List (Int × Int)} (hB : Blk w H t (handlesV hs).toArray) (hF : H ∉ F) (hl : hs.length ≤ 9223372036854775807) : HsIn w F (.slice (some ⟨H, 0, none⟩) hs.length hs.length) hs :=
  ⟨_, _, rfl, Nat.le_refl _, by unfold maxLen; omega, fun _ => ⟨H, 0, rfl, hF, fun j h hj => by
    obtain ⟨g0, g1⟩ := handlesV_get hs j h hj
    rw [hB.cell, hB.cell, Nat.zero_add]
    exact ⟨by simpa using g0, by simpa using g1⟩⟩⟩
set_option maxRecDepth 100000 in
set_option maxHeartbeats 1000000 in
theorem sknown_any (w : World) : Calls Try.prog 18 #[] w fun e w' => e = .returned (.bool true) ∧ Keeps [] w w' := by
  go_enter Try.func18, Try.ntmps18
  go_wp2_with fail
  refine (snew_ok 2 _ (by omega) (by omega)).mono ?_
  rintro e w1 ⟨rfl, hs1, hk1⟩
  obtain ⟨s, hse⟩ : ∃ s, w.heap.size = s := ⟨_, rfl⟩
  rw [hse] at hs1
  rw [hse]
  have hsl : w.heap.size ≤ s := by omega
  clear hse
  go_wp2_with fail
  refine (sput_any s [s] 2 0 [] 7 _ hs1 (by decide) (by simp) (by simp) (by omega) (by omega)).mono ?_
  rintro e w2 ⟨rfl, ⟨F2, hs2', hl2⟩, hk2⟩
  have hs2 : SRep w2 s F2 2 [(1, true, 7)] 1 := hs2'
  have hF2 : ∀ k ∈ F2, w.heap.size ≤ k := hl2.from (by simpa using hsl) hk1.size
  have hkk2 : Keeps [] w w2 := hk1.trans hk2 (by simpa using hsl)
  have e2 : ((freeAt [] : Nat) : Int) = 0 := rfl
  have e3 : putG [] = 1 := rfl
  rw [e2, e3]
  clear hs2' hl2 hk2 hk1 e2 e3
  obtain ⟨a, ha⟩ : ∃ a, w2.heap.size = a := ⟨_, rfl⟩
  have hba : Blk (w2.alloc (.cells #[.int .i64 0, .int .i64 1] 30)) a 30 #[.int .i64 0, .int .i64 1] := Blk.newAt ha
  have HA := hid ha
  have haF : a ∉ F2 := fun hx => by have := hs2.flt a hx; omega
  have haw : w.heap.size ≤ a := by have := hkk2.size; omega
  go_wp2_with fail
  refine (sput_any s F2 2 1 [(1, true, 7)] 8 _ (hs2.keeps ((Keeps.refl [] _).alloc _) (by simp)) (by decide) (by simp) (by simp) (by omega) (by omega)).mono ?_
  rintro e w3 ⟨rfl, ⟨F3, hs3', hl3⟩, hk3⟩
  have hs3 : SRep w3 s F3 2 [(1, true, 7), (1, true, 8)] 2 := hs3'
  have hkk3 : Keeps [] w w3 := (hkk2.alloc _).trans hk3 (fun j hj => .inr (hF2 j hj))
  have hF3 : ∀ k ∈ F3, w.heap.size ≤ k := hl3.from hF2 (Nat.le_trans hkk2.size (by simp))
  have hba3 := hba.keeps hk3 haF
  have haF3 : a ∉ F3 := fun hx => by
    rcases hl3 a hx with h | h
    · exact haF h
    · simp at h
      omega
  have a0 := hba3.cell 0
  have a1 := hba3.cell 1
  simp at a0 a1
  clear hs3' hl3 hk3 hkk2 hs2 hs1 haF ha hba
  go_wp2_with fail
  refine (stake_any s F3 2 2 [(1, true, 7), (1, true, 8)] _ [(0, 1), (0, 1)] _ (hs3.keeps ((Keeps.refl [] _).alloc _) (by simp)) (hs_new (hs := [(0, 1), (0, 1)]) (Blk.newAt rfl) (fun hx => by have := hs3.flt _ hx; omega) (by simp)) (by simp) (by omega) (by omega)).mono ?_
  rintro e w4 ⟨rfl, hs4', hk4⟩
  have hs4 : SRep w4 s F3 2 [(1, false, 7), (1, true, 8)] 1 := hs4'
  have hkk4 : Keeps [] w w4 := (hkk3.alloc _).trans hk4 (fun j hj => .inr (hF3 j hj))
  have hba4 := (hba3.alloc _).keeps hk4 haF3
  have e4 : ((takeAll [(1, true, 7), (1, true, 8)] [(0, 1), (0, 1)]).2 : Int) = 1 := rfl
  rw [e4]
  clear hs4' hk4 hkk3 hs3 hba3 a0 a1 e4
  go_wp2_with fail
  refine (sput_any s F3 2 1 [(1, false, 7), (1, true, 8)] 9 _ hs4 (by decide) (by simp) (by simp) (by omega) (by omega)).mono ?_
  rintro e w5 ⟨rfl, ⟨F5, hs5', hl5⟩, hk5⟩
  have hs5 : SRep w5 s F5 2 [(2, true, 9), (1, true, 8)] 2 := hs5'
  have hkk5 : Keeps [] w w5 := hkk4.trans hk5 (fun j hj => .inr (hF3 j hj))
  have hba5 := hba4.keeps hk5 haF3
  have e5 : ((freeAt [(1, false, 7), (1, true, 8)] : Nat) : Int) = 0 := rfl
  have e6 : putG [(1, false, 7), (1, true, 8)] = 2 := rfl
  rw [e5, e6]
  have a0 := hba5.cell 0
  have a1 := hba5.cell 1
  simp at a0 a1
  have n0 := fun o => alloc_cell a0 o
  have n1 := fun o => alloc_cell a1 o
  clear hs5' hl5 hk5 hkk4 hs4 hba4 e5 e6 a0 a1
  go_wp2_with fail
  refine (sget_any s F5 2 2 [(2, true, 9), (1, true, 8)] 0 1 _ (hs5.keeps ((Keeps.refl [] _).alloc _) (by simp))).mono ?_
  rintro e w6 ⟨rfl, hk6⟩
  have e7 : getR [(2, true, 9), (1, true, 8)] 0 1 = (0, 10) := rfl
  rw [e7]
  have hbh := (Blk.new w5 30 #[.int .i64 0, .int .i64 2]).keeps hk6 (by simp)
  have b0 := hbh.cell 0
  have b1 := hbh.cell 1
  simp at b0 b1
  clear n0 n1 e7 hbh
  go_wp2_with fail
  go_ret
  exact ⟨rfl, (hkk5.alloc _).trans hk6 (by simp)⟩
set_option maxRecDepth 100000 in
set_option maxHeartbeats 1000000 in
theorem slabOfNothing_walk (w : World) (i g v : Int) (_ : (Lit.int .i64 v).wf = true) :
    Calls Try.prog 6 #[.agg #[.int .i64 i, .int .i64 g], .int .i64 v] w fun e w' => e = .returned (.bool true) ∧ Below w.heap.size w w' := by
  go_enter Try.func6, Try.ntmps6
  go_wp2_with fail
  refine (sput_nil v _).mono ?_
  rintro e w1 ⟨rfl, hk1⟩
  have hb1 := (Blk.new w 30 #[.int .i64 i, .int .i64 g]).keeps hk1 (by simp)
  have a0 := hb1.cell 0
  have a1 := hb1.cell 1
  simp at a0 a1
  have n0 := fun o => alloc_cell a0 o
  have n1 := fun o => alloc_cell a1 o
  have hkk1 := ((Keeps.refl [] w).alloc (.cells #[.int .i64 i, .int .i64 g] 30)).trans hk1 (by simp)
  clear a0 a1 hk1
  go_wp2_with fail
  refine (sget_nil i g _).mono ?_
  rintro e w2 ⟨rfl, hk2⟩
  have hkk2 := (hkk1.alloc (.cells #[.int .i64 0, .int .i64 0] 30)).trans hk2 (by simp)
  have hb2 := (hb1.alloc (.cells #[.int .i64 0, .int .i64 0] 30)).keeps hk2 (by simp)
  have hc2 := (Blk.new w1 30 #[.int .i64 0, .int .i64 0]).keeps hk2 (by simp)
  have a0 := hb2.cell 0
  have a1 := hb2.cell 1
  have b0 := hc2.cell 0
  have b1 := hc2.cell 1
  simp at a0 a1 b0 b1
  clear hk2 hb1 n0 n1 hc2 hkk1
  go_wp2_with fail
  refine (sset_nil i g v _).mono ?_
  rintro e w3 ⟨rfl, hk3⟩
  have hkk3 := hkk2.trans hk3 (by simp)
  have hb3 := hb2.keeps hk3 (by simp)
  have a0 := hb3.cell 0
  have a1 := hb3.cell 1
  simp at a0 a1
  clear hk3 hkk2 hb2 b0 b1
  go_wp2_with fail
  refine (stake_nil _ (i, g) _ (hs_new (hs := [(i, g)]) (Blk.newAt rfl) (by simp) (by simp))).mono ?_
  rintro e w4 ⟨rfl, hk4⟩
  have hkk4 := (hkk3.alloc (.cells #[.int .i64 i, .int .i64 g] 30)).trans hk4 (by simp)
  clear hk4 hkk3 hb3
  go_wp2_with (first
    | (go_at_call 22; refine (slen_nil _).mono ?_; rintro e w5 ⟨rfl, hk5⟩)
    | (go_at_call 31; refine (sall_nil _).mono ?_; rintro e w6 ⟨rfl, hk6⟩)
    | (go_at_call 18; refine (sknown_any _).mono ?_; rintro e w7 ⟨rfl, hk7⟩))
  go_ret
  exact ⟨rfl, (((hkk4.trans hk5 (by simp)).trans hk6 (by simp)).trans hk7 (by simp)).below (Nat.le_refl _) (by simp)⟩
end Go.Proofs.Ytkeffebcmajhmaa
/- The poller's map: Handles to what is watched. Its look-ups, stores, deletes, ranges by law. -/
namespace Go.Proofs.Ytkeffebcmajhmaa
open Go.RowKit
open Go.ChangeMaps (setBlock)
set_option linter.unusedVariables false
theorem run_eqH (a b c d : Int) (w : World) : (Op.equal 30 (.agg #[.int .i64 a, .int .i64 b]) (.agg #[.int .i64 c, .int .i64 d])).run Try.prog w = .ok (a == c && b == d) w := by
  have hp0 : ∀ (x y : Int) (w : World), (part 3 #[.int .i64 x, .int .i64 y] 0).run Try.prog w = .ok (.int .i64 x) w := fun _ _ _ => by kernel_rfl
  have hp1 : ∀ (x y : Int) (w : World), (part 3 #[.int .i64 x, .int .i64 y] 1).run Try.prog w = .ok (.int .i64 y) w := fun _ _ _ => by kernel_rfl
  have he : ∀ (x y : Int) (w : World), (Op.equalIn 9999 3 (.int .i64 x) (.int .i64 y)).run Try.prog w = .ok (x == y) w := fun x y w => run_equalIn_int w 9998 3 .i64 .i64 x y Try.underlying3
  show (Op.equalIn (9999 + 1) _ _ _).run _ _ = _
  rw [run_equalIn_struct w 9999 30 _ _ (by simp [Program.fieldsOf, Try.underlying30]) (by kernel_rfl)]
  simp [Program.fieldsOf, Try.underlying30, Op.eqFields, hp0, hp1, he]
  by_cases h1 : a = c <;> by_cases h2 : b = d <;> simp [h1, h2]
theorem run_ckH (e : Bool) (a b : Int) (w : World) : (Instr.checkKey e 10000 30 (.agg #[.int .i64 a, .int .i64 b])).run Try.prog w = .ok () w := by
  kernel_rfl
theorem run_zvW (w : World) : (zeroValue 151).run Try.prog w = .ok (.pointer none) w := by kernel_rfl
/-- an entry: a Handle, the block of what is watched, when it was born. -/
structure PE where
  s : Int
  g : Int
  p : Nat
  b : Nat
def PE.me (e : PE) : MapEntry := { key := .agg #[.int .i64 e.s, .int .i64 e.g], val := .pointer (some ⟨e.p, 0, none⟩), born := e.b }
def PE.is (s g : Int) (e : PE) : Bool := e.s == s && e.g == g
def MapB (w : World) (m : Nat) (es : List PE) (clock : Nat) : Prop := w.heap[m]? = some (.map (es.map PE.me).toArray clock)
theorem run_findH (s g : Int) (w : World) : ∀ (es : List PE) (i : Nat), (Instr.findAsking 30 (.agg #[.int .i64 s, .int .i64 g]) (es.map PE.me) i).run Try.prog w =
    .ok ((es.findIdx? (PE.is s g)).map fun j => (i + j, .pointer (some ⟨(es.getD j ⟨0, 0, 0, 0⟩).p, 0, none⟩))) w := by
  intro es
  induction es with
  | nil => intro i; simp [Instr.findAsking]
  | cons e es ih =>
    intro i
    simp only [List.map_cons, Instr.findAsking, PE.me, Sem.run_bind, run_eqH, Result.andThen_ok]
    have hs : (s == e.s && g == e.g) = PE.is s g e := by
      unfold PE.is
      rw [Bool.eq_iff_iff]
      simp only [Bool.and_eq_true, beq_iff_eq]
      constructor <;> rintro ⟨h1, h2⟩ <;> exact ⟨h1.symm, h2.symm⟩
    rw [hs, List.findIdx?_cons]
    cases h : PE.is s g e with
    | true => simp
    | false =>
      have := ih (i + 1)
      simp [this]
      cases es.findIdx? (PE.is s g) with
      | none => simp
      | some j => simp; omega
theorem run_findKeyH (s g : Int) (w : World) (es : List PE) : (Instr.findKey 30 (.agg #[.int .i64 s, .int .i64 g]) (es.map PE.me)).run Try.prog w =
    .ok ((es.findIdx? (PE.is s g)).map fun j => (j, .pointer (some ⟨(es.getD j ⟨0, 0, 0, 0⟩).p, 0, none⟩))) w := by
  have hf := run_findH s g w es 0
  simp only [Nat.zero_add] at hf
  unfold Instr.findKey
  simp only [Sem.run_bind, run_underlying Try.underlying30, Result.andThen_ok]
  cases es with
  | nil => simp [Instr.findNow]
  | cons e es => simpa [Instr.findNow, Instr.sameNow, PE.me] using hf
/-- what is under a Handle. -/
def lookE (es : List PE) (s g : Int) : Value := match es.findIdx? (PE.is s g) with
  | some j => .pointer (some ⟨(es.getD j ⟨0, 0, 0, 0⟩).p, 0, none⟩)
  | none => .pointer none
theorem run_lookH {w : World} {m clock : Nat} {es : List PE} (h : MapB w m es clock) (s g : Int) : (Instr.lookup 91 (.map (some m)) (.agg #[.int .i64 s, .int .i64 g]) false).run Try.prog w = .ok (lookE es s g) w := by
  unfold MapB at h
  have hfk := run_findKeyH s g w es
  unfold Instr.lookup
  simp only [Sem.run_bind, run_underlying Try.underlying91, Result.andThen_ok, getObj, Sem.run, h, run_ckH, Sem.run_pure, hfk]
  unfold lookE
  cases es.findIdx? (PE.is s g) with
  | none => simp
  | some j => simp
section
variable {w w' : World} {m clock : Nat} {es : List PE}
theorem MapB.lt (h : MapB w m es clock) : m < w.heap.size := by
  rcases Nat.lt_or_ge m w.heap.size with hlt | hge
  · exact hlt
  · unfold MapB at h; rw [Array.getElem?_eq_none hge] at h; cases h
theorem MapB.keeps {F : List Nat} (h : MapB w m es clock) (hk : Keeps F w w') (hm : m ∉ F) : MapB w' m es clock := (hk.block m h.lt hm).trans h
theorem MapB.drewN (h : MapB w m es clock) (n : Nat) : MapB (w.drewN n) m es clock := h
theorem MapB.drew (h : MapB w m es clock) : MapB w.drew m es clock := h
theorem keeps_setBlock {b : Nat} (o : Obj) (hb : b < w.heap.size) : Keeps [b] w (setBlock w b o) := by
  refine ⟨rfl, rfl, rfl, by simp [setBlock], fun k hk hF => ?_⟩
  simp at hF
  simp [setBlock, Ne.symm hF]
theorem get_setBlock {b : Nat} (o : Obj) (hb : b < w.heap.size) : (setBlock w b o).heap[b]? = some o := by
  simp [setBlock, hb]
theorem run_setObj_map (h : MapB w m es clock) (o' : Obj) : (setObj m o').run Try.prog w = .ok () (setBlock w m o') := by
  unfold MapB at h
  simp [setObj, Sem.run, h, setBlock]
theorem mapB_set {b clock' : Nat} (es' : List PE) (hb : b < w.heap.size) : MapB (setBlock w b (.map (es'.map PE.me).toArray clock')) b es' clock' := get_setBlock _ hb
/-- a Handle that is not there comes in. -/
theorem run_storeH (h : MapB w m es clock) (s g : Int) (p : Nat) (hn : es.findIdx? (PE.is s g) = none) :
    ∃ w', (Instr.mapUpdate 91 (.map (some m)) (.agg #[.int .i64 s, .int .i64 g]) (.pointer (some ⟨p, 0, none⟩))).run Try.prog w = .ok () w' ∧ MapB w' m (es ++ [⟨s, g, p, clock⟩]) (clock + 1) ∧ Keeps [m] w w' := by
  have h0 := h
  have hfk := run_findKeyH s g w es
  rw [hn] at hfk
  unfold MapB at h
  refine ⟨setBlock w m (.map ((es ++ [(⟨s, g, p, clock⟩ : PE)]).map PE.me).toArray (clock + 1)), ?_, mapB_set _ h0.lt, keeps_setBlock _ h0.lt⟩
  unfold Instr.mapUpdate
  simp only [Sem.run_bind, run_underlying Try.underlying91, Result.andThen_ok, getObj, Sem.run, h, run_ckH, hfk, Option.map_none]
  rw [run_setObj_map h0]
  simp [PE.me]
/-- a Handle goes, if it is there. -/
def delE (es : List PE) (s g : Int) : List PE := match es.findIdx? (PE.is s g) with
  | some j => es.eraseIdx j
  | none => es
theorem run_delH (h : MapB w m es clock) (s g : Int) (ty : TypeId) :
    ∃ w', (Builtin.delete_ #[91, 30] ty #[.map (some m), .agg #[.int .i64 s, .int .i64 g]]).run Try.prog w = .ok (.tuple #[]) w' ∧ MapB w' m (delE es s g) clock ∧ Keeps [m] w w' := by
  have h0 := h
  have hfk := run_findKeyH s g w es
  unfold MapB at h
  refine ⟨setBlock w m (.map ((delE es s g).map PE.me).toArray clock), ?_, mapB_set _ h0.lt, keeps_setBlock _ h0.lt⟩
  unfold Builtin.delete_ delE
  cases hj : es.findIdx? (PE.is s g) with
  | none =>
    rw [hj] at hfk
    simp [run_underlying Try.underlying91, getObj, Sem.run, h, run_ckH, hfk, run_setObj_map h0, Result.andThen]
  | some j =>
    rw [hj] at hfk
    have hjl : j < es.length := (List.findIdx?_eq_some_iff_getElem.1 hj).1
    simp [run_underlying Try.underlying91, getObj, Sem.run, h, run_ckH, hfk, run_setObj_map h0, Result.andThen]
    rw [Go.ChangeMaps.map_eraseIdx]
theorem run_lenH (h : MapB w m es clock) (ty : TypeId) : (Builtin.len_ #[91] ty #[.map (some m)]).run Try.prog w = .ok (.int .i64 es.length) w := by
  unfold MapB at h
  simp [Builtin.len_, run_underlying Try.underlying91, getObj, Sem.run, h, goInt, Result.andThen]
theorem run_rangeH (h : MapB w m es clock) : (Instr.range 91 (.map (some m))).run Try.prog w = .ok (.pointer (some ⟨w.heap.size, 0, none⟩)) (w.alloc (.mapIter (some m) clock #[] clock)) := by
  unfold MapB at h
  simp [Instr.range, run_underlying Try.underlying91, getObj, Sem.run, h, newObj, Result.andThen]
/-- the range's step: nothing is left, or one that is left comes. -/
theorem wpList_nextH {ops : Array Oper} {rest : List Oper} {o : Oper} {a : Act} {Q : Exit → Act → World → Prop} (hg : o.guard = none) (it : Operand) (hop : o.op = Op.next it false) {r : Nat} {seen : Array Nat}
    (hit : a.eval it = .pointer (some ⟨r, 0, none⟩)) (hr : w.heap[r]? = some (.mapIter (some m) clock seen clock)) (h : MapB w m es clock) (hb : ∀ e ∈ es, e.b < clock) (hn : (es.map (·.b)).Nodup) (hrm : r ≠ m)
    (hDone : (∀ e ∈ es, seen.contains e.b = true) → wpList Try.prog ops Q rest (a.put o.dst (.tuple #[.bool false])) w)
    (hMore : ∀ e ∈ es, seen.contains e.b = false → ∀ w', w'.heap[r]? = some (.mapIter (some m) clock (seen.push e.b) clock) → Keeps [r] w w' →
      (Instr.entry (.pointer (some ⟨r, 0, none⟩))).run Try.prog w' = .ok (.tuple #[.agg #[.int .i64 e.s, .int .i64 e.g], .pointer (some ⟨e.p, 0, none⟩)]) w' →
      wpList Try.prog ops Q rest (a.put o.dst (.tuple #[.bool true, .agg #[.int .i64 e.s, .int .i64 e.g], .pointer (some ⟨e.p, 0, none⟩)])) w') :
    wpList Try.prog ops Q (o :: rest) a w := by
  have hrl : r < w.heap.size := by
    rcases Nat.lt_or_ge r w.heap.size with hlt | hge
    · exact hlt
    · rw [Array.getElem?_eq_none hge] at hr; cases hr
  refine wpList_plain hg fun K' hK' => ?_
  unfold Oper.wp
  rcases run_next_at (P := Try.prog) w o.type r m clock clock seen (es.map PE.me).toArray clock hr h (fun x hx => by
      simp at hx
      obtain ⟨e, he, rfl⟩ := hx
      exact hb e he) (Nat.le_refl _) with ⟨h0, hrun⟩ | ⟨e, he, w1, hw1, hrun⟩
  · simp [execOp, hop, hit, hrun, Result.andThen]
    refine hK' _ _ (hDone fun e he => ?_)
    cases hc : seen.contains e.b with
    | true => rfl
    | false =>
      have hin : e.me ∈ (leftOf (es.map PE.me).toArray seen) := by
        unfold leftOf
        rw [Array.mem_filter]
        exact ⟨by simpa using ⟨e, he, rfl⟩, by simp [PE.me]; simpa using hc⟩
      have := Array.size_pos_of_mem hin
      omega
  · obtain ⟨hel, hes⟩ := mem_left he
    simp at hel
    obtain ⟨x, hx, rfl⟩ := hel
    have hw1r : w1.heap[r]? = some (.mapIter (some m) clock seen clock) := by rcases hw1 with rfl | rfl <;> exact hr
    have hw1k : Keeps [r] w (setBlock w1 r (.mapIter (some m) clock (seen.push x.b) clock)) := by
      rcases hw1 with rfl | rfl
      · exact keeps_setBlock _ hrl
      · exact (keeps_setBlock (w := w.drew) _ hrl).pre1
    have hgr : (setBlock w1 r (.mapIter (some m) clock (seen.push x.b) clock)).heap[r]? = some (.mapIter (some m) clock (seen.push x.b) clock) := get_setBlock _ (by rcases hw1 with rfl | rfl <;> exact hrl)
    have hmb : MapB (setBlock w1 r (.mapIter (some m) clock (seen.push x.b) clock)) m es clock := h.keeps hw1k (by simpa using Ne.symm hrm)
    have hen := run_entry_at (P := Try.prog) _ r m clock seen (es.map PE.me).toArray clock x.me hgr hmb (by simpa using ⟨x, hx, rfl⟩) (by simpa [List.map_map, Function.comp_def, PE.me] using hn)
    simp [execOp, hop, hit, hrun, Result.andThen]
    exact hK' _ _ (hMore x hx hes _ hgr hw1k hen)
end
end Go.Proofs.Ytkeffebcmajhmaa
/- The poller: what is watched. -/
namespace Go.Proofs.Ytkeffebcmajhmaa
open Go.RowKit
set_option linter.unusedVariables false
set_option linter.unusedSimpArgs false
structure Wd where
  id : Int
  rd : Bool
  wr : Bool
  ed : Bool
  tr : Int
  tm : Int
def wcells (d : Wd) : Array Value := #[.int .i64 d.id, .bool d.rd, .bool d.wr, .bool d.ed, .int .i64 d.tr, .int .i64 d.tm]
def pcells (n s m : Nat) : Array Value := #[.pointer (some ⟨n, 0, none⟩), .pointer (some ⟨s, 0, none⟩), .map (some m)]
/-- what is told, and what is remembered of it. -/
def toldD (N : NS) (d : Wd) : Bool × Bool × Wd :=
  if d.ed = true then
    ((readyN N d.id).1 && d.rd && decide (d.tr < (marksN N d.id).1), (readyN N d.id).2 && d.wr && decide (d.tm < (marksN N d.id).2),
      { d with tr := if ((readyN N d.id).1 && d.rd && decide (d.tr < (marksN N d.id).1)) = true then (marksN N d.id).1 else d.tr, tm := if ((readyN N d.id).2 && d.wr && decide (d.tm < (marksN N d.id).2)) = true then (marksN N d.id).2 else d.tm })
  else ((readyN N d.id).1 && d.rd, (readyN N d.id).2 && d.wr, d)
def ToldPost (w : World) (q : Nat) (r : Bool × Bool × Wd) (e : Ending) (w' : World) : Prop := e = .returned (.tuple #[.bool r.1, .bool r.2.1]) ∧ Blk w' q 153 (wcells r.2.2) ∧ Keeps [q] w w'
end Go.Proofs.Ytkeffebcmajhmaa
/- The reference's slab: what it is in memory; New, Is, Get, Set by contract. -/
namespace Go.Proofs.Ytkeffebcmajhmaa
open Go.RowKit
set_option linter.unusedVariables false
def usedV (L : List Slot) : List Value := L.map fun d => .bool d.2.1
def genV (L : List Slot) : List Value := L.map fun d => .int .i64 d.1
def valV (L : List Slot) : List Value := L.map fun d => .int .i64 d.2.2
theorem bool_info : (Try.prog.info? 4).map (fun i => (i.zero, i.size, i.bytes)) = some (some (.bool false), 1, 1) := by kernel_rfl
def RS (w : World) (x : Nat) (F : List Nat) (lim : Int) (L : List Slot) (n : Int) : Prop :=
  ∃ vu vg vv, Blk w x 53 #[.int .i64 lim, vu, vg, vv, .int .i64 n] ∧ Row w 4 1 vu L.length (usedV L) ∧ Row w 3 1 vg L.length (genV L) ∧ Row w 3 1 vv L.length (valV L) ∧
    (∀ k ∈ F, k < w.heap.size) ∧ x ∈ F ∧ (∀ k, vu.ownBlock = some k → k ∈ F) ∧ (∀ k, vg.ownBlock = some k → k ∈ F) ∧ (∀ k, vv.ownBlock = some k → k ∈ F) ∧ (∀ k, vg.ownBlock = some k → vv.ownBlock ≠ some k)
section
variable {w w' : World} {x : Nat} {F : List Nat} {lim n : Int} {L : List Slot}
theorem RS.keeps {K : List Nat} (h : RS w x F lim L n) (hk : Keeps K w w') (hd : ∀ k ∈ F, k ∉ K) : RS w' x F lim L n := by
  obtain ⟨vu, vg, vv, h1, h2, h3, h4, h5, h6, h7, h8, h9, h10⟩ := h
  exact ⟨vu, vg, vv, h1.keeps hk (hd _ h6), h2.keeps hk (fun k e => hd _ (h7 k e)), h3.keeps hk (fun k e => hd _ (h8 k e)), h4.keeps hk (fun k e => hd _ (h9 k e)), fun k e => Nat.lt_of_lt_of_le (h5 k e) hk.size, h6, h7, h8, h9, h10⟩
theorem RS.flt (h : RS w x F lim L n) : ∀ k ∈ F, k < w.heap.size := by
  obtain ⟨_, _, _, _, _, _, _, h5, _⟩ := h
  exact h5
end
theorem rsnew_bad (n : Int) (w : World) (h : n < 1 ∨ (1 ≤ n ∧ 4096 < n)) :
    Calls Try.prog 25 #[.int .i64 n] w fun e w' => e = .returned (.tuple #[.pointer none, .int .i64 1]) ∧ w = w' := by
  rcases h with h | ⟨h0, h⟩
  all_goals
    go_enter Try.func25, Try.ntmps25
    go_wp2
    go_ret2
    exact ⟨rfl, rfl⟩
theorem rsnew_ok (n : Int) (w : World) (h1 : 1 ≤ n) (h2 : n ≤ 4096) :
    Calls Try.prog 25 #[.int .i64 n] w fun e w' => e = .returned (.tuple #[.pointer (some ⟨w.heap.size, 0, none⟩), .int .i64 0]) ∧ RS w' w.heap.size [w.heap.size] n [] 0 ∧ Keeps [] w w' := by
  have h1' : ¬ n < 1 := by omega
  have h2' : ¬ 4096 < n := by omega
  go_enter Try.func25, Try.ntmps25
  go_wp2
  go_ret2
  exact ⟨rfl, ⟨.slice none 0 0, .slice none 0 0, .slice none 0 0, Blk.new _ _ _, Row.nil _ _ _, Row.nil _ _ _, Row.nil _ _ _, by simp, by simp, by simp [Value.ownBlock], by simp [Value.ownBlock], by simp [Value.ownBlock], by simp [Value.ownBlock]⟩, (Keeps.refl [] w).alloc _⟩
/-- where the three rows lie. -/
theorem RS.opened {w : World} {x : Nat} {F : List Nat} {lim n : Int} {L : List Slot} (h : RS w x F lim L n) : ∃ UA uc GA gc VA vc, w.cell? ⟨x, 1, none⟩ = some (.slice UA L.length uc) ∧ w.cell? ⟨x, 2, none⟩ = some (.slice GA L.length gc) ∧ w.cell? ⟨x, 3, none⟩ = some (.slice VA L.length vc) ∧
    (0 < L.length → ∃ ub uo gb go vb vo, UA = some ⟨ub, uo, none⟩ ∧ GA = some ⟨gb, go, none⟩ ∧ VA = some ⟨vb, vo, none⟩ ∧
      ∀ k d, L[k]? = some d → w.cell? ⟨ub, uo + k, none⟩ = some (.bool d.2.1) ∧ w.cell? ⟨gb, go + k, none⟩ = some (.int .i64 d.1) ∧ w.cell? ⟨vb, vo + k, none⟩ = some (.int .i64 d.2.2)) := by
  obtain ⟨vu, vg, vv, h1, h2, h3, h4, -⟩ := h
  obtain ⟨UA, uc, rfl, -⟩ := h2.form
  obtain ⟨GA, gc, rfl, -⟩ := h3.form
  obtain ⟨VA, vc, rfl, -⟩ := h4.form
  refine ⟨UA, uc, GA, gc, VA, vc, by simpa using h1.cell 1, by simpa using h1.cell 2, by simpa using h1.cell 3, fun hp => ?_⟩
  obtain ⟨ub, uo, hu, -, hcu⟩ := (h2.cellsIn (F := []) (by simp)).at_ (by simp [usedV]; omega)
  obtain ⟨gb, go, hg, -, hcg⟩ := (h3.cellsIn (F := []) (by simp)).at_ (by simp [genV]; omega)
  obtain ⟨vb, vo, hv, -, hcv⟩ := (h4.cellsIn (F := []) (by simp)).at_ (by simp [valV]; omega)
  exact ⟨ub, uo, gb, go, vb, vo, hu, hg, hv, fun k d hd => ⟨hcu k _ (by simp [usedV, hd]), hcg k _ (by simp [genV, hd]), hcv k _ (by simp [valV, hd])⟩⟩
set_option maxHeartbeats 1000000 in
theorem ris_live (x : Nat) (F : List Nat) (lim n : Int) (L : List Slot) (k : Nat) (g v : Int) (w : World) (h : RS w x F lim L n) (hd : L[k]? = some (g, true, v)) :
    Calls Try.prog 72 #[.pointer (some ⟨x, 0, none⟩), .agg #[.int .i64 k, .int .i64 g]] w fun e w' => e = .returned (.bool true) ∧ Keeps [] w w' := by
  obtain ⟨UA, uc, GA, gc, VA, vc, h1, h2, h3, hc⟩ := h.opened
  have hk : k < L.length := (List.getElem?_eq_some_iff.1 hd).1
  obtain ⟨ub, uo, gb, go, vb, vo, rfl, rfl, rfl, hcc⟩ := hc (by omega)
  obtain ⟨c1, c2, -⟩ := hcc k _ hd
  have n1 := fun o => alloc_cell h1 o
  have n2 := fun o => alloc_cell h2 o
  have n3 := fun o => alloc_cell c1 o
  have n4 := fun o => alloc_cell c2 o
  have hki : (k : Int) < L.length := by omega
  have hd0 : decide ((0 : Int) ≤ (k : Int)) = true := by simp
  have hd1 : decide ((k : Int) < L.length) = true := by simpa using hki
  clear h h1 h2 h3 hc hcc c1 c2 hd
  simp only at n3 n4
  go_enter Try.func72, Try.ntmps72
  go_wp2_with fail
  go_quiet (fail)
  go_wp2
  go_ret
  exact ⟨rfl, by (repeat (first | exact Keeps.refl _ _ | apply Keeps.drewN | apply Keeps.alloc))⟩
set_option maxHeartbeats 2000000 in
theorem ris_dead (x : Nat) (F : List Nat) (lim n : Int) (L : List Slot) (i g : Int) (w : World) (h : RS w x F lim L n) (hl : live L i g = none) :
    Calls Try.prog 72 #[.pointer (some ⟨x, 0, none⟩), .agg #[.int .i64 i, .int .i64 g]] w fun e w' => e = .returned (.bool false) ∧ Keeps [] w w' := by
  obtain ⟨UA, uc, GA, gc, VA, vc, h1, h2, h3, hc⟩ := h.opened
  have n1 := fun o => alloc_cell h1 o
  have n2 := fun o => alloc_cell h2 o
  rcases live_none hl with h0 | ⟨h0, h4⟩ | ⟨k, g', u, v, rfl, hd, hm⟩
  · have hd0 : decide ((0 : Int) ≤ i) = false := by simp; omega
    clear h h1 h2 h3 hc hl
    go_enter Try.func72, Try.ntmps72
    go_wp2_with fail
    go_quiet (fail)
    go_wp2
    go_ret
    exact ⟨rfl, by (repeat (first | exact Keeps.refl _ _ | apply Keeps.drewN | apply Keeps.alloc))⟩
  · have hd0 : decide ((0 : Int) ≤ i) = true := by simp; omega
    have hd1 : decide (i < (L.length : Int)) = false := by simp; omega
    clear h h1 h2 h3 hc hl
    go_enter Try.func72, Try.ntmps72
    go_wp2_with fail
    go_quiet (fail)
    go_wp2
    go_ret
    exact ⟨rfl, by (repeat (first | exact Keeps.refl _ _ | apply Keeps.drewN | apply Keeps.alloc))⟩
  · have hk : k < L.length := (List.getElem?_eq_some_iff.1 hd).1
    obtain ⟨ub, uo, gb, go, vb, vo, rfl, rfl, rfl, hcc⟩ := hc (by omega)
    obtain ⟨c1, c2, -⟩ := hcc k _ hd
    have hki : (k : Int) < L.length := by omega
    have hd0 : decide ((0 : Int) ≤ (k : Int)) = true := by simp
    have hd1 : decide ((k : Int) < L.length) = true := by simpa using hki
    simp only at c1 c2
    rcases hm with rfl | ⟨rfl, hne⟩
    all_goals
      have n3 := fun o => alloc_cell c1 o
      have n4 := fun o => alloc_cell c2 o
      try have hde : (g' == g) = false := by simpa using hne
      clear h h1 h2 h3 hc hcc c1 c2 hd hl
      go_enter Try.func72, Try.ntmps72
      go_wp2_with fail
      go_quiet (fail)
      go_wp2
      go_ret
      exact ⟨rfl, by (repeat (first | exact Keeps.refl _ _ | apply Keeps.drewN | apply Keeps.alloc))⟩
end Go.Proofs.Ytkeffebcmajhmaa
/- The reference's slab: stores; Get, Set, Take by contract. -/
namespace Go.Proofs.Ytkeffebcmajhmaa
open Go.RowKit
set_option linter.unusedVariables false
section
variable {w w' : World} {x : Nat} {F : List Nat} {lim n : Int} {L : List Slot}
theorem RS.setN (h : RS w x F lim L n) (m : Int) : RS (w.setCell ⟨x, 4, none⟩ (.int .i64 m)) x F lim L m := by
  obtain ⟨vu, vg, vv, h1, h2, h3, h4, h5, h6, h7, h8, h9, h10⟩ := h
  exact ⟨vu, vg, vv, h1.set_ 4 _, h2.far (fun k e => h2.blk_ne h1 (by decide) k e) _, h3.far (fun k e => h3.blk_ne h1 (by decide) k e) _, h4.far (fun k e => h4.blk_ne h1 (by decide) k e) _, fun k hk => by simpa [World.setCell] using h5 k hk, h6, h7, h8, h9, h10⟩
theorem RS.cN (h : RS w x F lim L n) : w.cell? ⟨x, 4, none⟩ = some (.int .i64 n) ∧ w.cell? ⟨x, 0, none⟩ = some (.int .i64 lim) ∧ (∀ j, w.frozen? ⟨x, j, none⟩ = false) ∧ x ∈ F ∧ x < w.heap.size := by
  obtain ⟨vu, vg, vv, h1, h2, h3, h4, h5, h6, h7, h8, h9, h10⟩ := h
  exact ⟨by simpa using h1.cell 4, by simpa using h1.cell 0, h1.frozen, h6, h1.lt⟩
theorem RS.setUsed (h : RS w x F lim L n) {ub uo uc k : Nat} {d : Slot} (hA : w.cell? ⟨x, 1, none⟩ = some (.slice (some ⟨ub, uo, none⟩) L.length uc)) (hd : L[k]? = some d) :
    ub ∈ F ∧ ub ≠ x ∧ (∀ j, w.frozen? ⟨ub, j, none⟩ = false) ∧ ∀ u, RS (w.setCell ⟨ub, uo + k, none⟩ (.bool u)) x F lim (L.set k (d.1, u, d.2.2)) n := by
  obtain ⟨vu, vg, vv, h1, h2, h3, h4, h5, h6, h7, h8, h9, h10⟩ := h
  have hc := h1.cell 1
  rw [hA] at hc
  simp at hc
  subst hc
  have hkl : k < L.length := (List.getElem?_eq_some_iff.1 hd).1
  obtain ⟨b, o, c, hv, -, -, -, hfz, hs⟩ := h2.open_ (by omega)
  injection hv with hv
  injection hv with hv
  injection hv with e1 e2
  subst e1 e2
  have hne : x ≠ ub := fun e => h2.blk_ne h1 (by decide) ub (by simp [Value.ownBlock]) e.symm
  refine ⟨h7 ub (by simp [Value.ownBlock]), Ne.symm hne, hfz, fun u => ?_⟩
  have hr := hs k (.bool u) (by simp [usedV]; omega)
  have e1 : (usedV L).set k (.bool u) = usedV (L.set k (d.1, u, d.2.2)) := by simp [usedV, List.map_set]
  have e2 : genV L = genV (L.set k (d.1, u, d.2.2)) := by
    simp only [genV, List.map_set]
    exact (set_self _ _ _ (by simp [hd])).symm
  have e3 : valV L = valV (L.set k (d.1, u, d.2.2)) := by
    simp only [valV, List.map_set]
    exact (set_self _ _ _ (by simp [hd])).symm
  rw [e1] at hr
  rw [e2] at h3
  rw [e3] at h4
  have q3 : ∀ j, vg.ownBlock = some j → j ≠ ub := fun j hj hx => h3.disj h2 (by decide) j hj (by simp [Value.ownBlock, hx])
  have q4 : ∀ j, vv.ownBlock = some j → j ≠ ub := fun j hj hx => h4.disj h2 (by decide) j hj (by simp [Value.ownBlock, hx])
  exact ⟨_, vg, vv, by simpa using h1.far (p := ⟨ub, uo + k, none⟩) hne _, by simpa using hr, by simpa using h3.far (p := ⟨ub, uo + k, none⟩) q3 _, by simpa using h4.far (p := ⟨ub, uo + k, none⟩) q4 _, fun j hj => by simpa [World.setCell] using h5 j hj, h6, h7, h8, h9, h10⟩
theorem RS.setGen (h : RS w x F lim L n) {gb go gc k : Nat} {d : Slot} (hA : w.cell? ⟨x, 2, none⟩ = some (.slice (some ⟨gb, go, none⟩) L.length gc)) (hd : L[k]? = some d) :
    gb ∈ F ∧ gb ≠ x ∧ (∀ j, w.frozen? ⟨gb, j, none⟩ = false) ∧ ∀ g, RS (w.setCell ⟨gb, go + k, none⟩ (.int .i64 g)) x F lim (L.set k (g, d.2.1, d.2.2)) n := by
  obtain ⟨vu, vg, vv, h1, h2, h3, h4, h5, h6, h7, h8, h9, h10⟩ := h
  have hc := h1.cell 2
  rw [hA] at hc
  simp at hc
  subst hc
  have hkl : k < L.length := (List.getElem?_eq_some_iff.1 hd).1
  obtain ⟨b, o, c, hv, -, -, -, hfz, hs⟩ := h3.open_ (by omega)
  injection hv with hv
  injection hv with hv
  injection hv with e1 e2
  subst e1 e2
  have hne : x ≠ gb := fun e => h3.blk_ne h1 (by decide) gb (by simp [Value.ownBlock]) e.symm
  refine ⟨h8 gb (by simp [Value.ownBlock]), Ne.symm hne, hfz, fun g => ?_⟩
  have hr := hs k (.int .i64 g) (by simp [genV]; omega)
  have e1 : (genV L).set k (.int .i64 g) = genV (L.set k (g, d.2.1, d.2.2)) := by simp [genV, List.map_set]
  have e2 : usedV L = usedV (L.set k (g, d.2.1, d.2.2)) := by
    simp only [usedV, List.map_set]
    exact (set_self _ _ _ (by simp [hd])).symm
  have e3 : valV L = valV (L.set k (g, d.2.1, d.2.2)) := by
    simp only [valV, List.map_set]
    exact (set_self _ _ _ (by simp [hd])).symm
  rw [e1] at hr
  rw [e2] at h2
  rw [e3] at h4
  have q2 : ∀ j, vu.ownBlock = some j → j ≠ gb := fun j hj hx => h2.disj h3 (by decide) j hj (by simp [Value.ownBlock, hx])
  have q4 : ∀ j, vv.ownBlock = some j → j ≠ gb := fun j hj hx => h10 j (by simp [Value.ownBlock, hx]) hj
  exact ⟨vu, _, vv, by simpa using h1.far (p := ⟨gb, go + k, none⟩) hne _, by simpa using h2.far (p := ⟨gb, go + k, none⟩) q2 _, by simpa using hr, by simpa using h4.far (p := ⟨gb, go + k, none⟩) q4 _, fun j hj => by simpa [World.setCell] using h5 j hj, h6, h7, h8, h9, h10⟩
theorem RS.setVal (h : RS w x F lim L n) {vb vo vc k : Nat} {d : Slot} (hA : w.cell? ⟨x, 3, none⟩ = some (.slice (some ⟨vb, vo, none⟩) L.length vc)) (hd : L[k]? = some d) :
    vb ∈ F ∧ vb ≠ x ∧ (∀ j, w.frozen? ⟨vb, j, none⟩ = false) ∧ ∀ v, RS (w.setCell ⟨vb, vo + k, none⟩ (.int .i64 v)) x F lim (L.set k (d.1, d.2.1, v)) n := by
  obtain ⟨vu, vg, vv, h1, h2, h3, h4, h5, h6, h7, h8, h9, h10⟩ := h
  have hc := h1.cell 3
  rw [hA] at hc
  simp at hc
  subst hc
  have hkl : k < L.length := (List.getElem?_eq_some_iff.1 hd).1
  obtain ⟨b, o, c, hv, -, -, -, hfz, hs⟩ := h4.open_ (by omega)
  injection hv with hv
  injection hv with hv
  injection hv with e1 e2
  subst e1 e2
  have hne : x ≠ vb := fun e => h4.blk_ne h1 (by decide) vb (by simp [Value.ownBlock]) e.symm
  refine ⟨h9 vb (by simp [Value.ownBlock]), Ne.symm hne, hfz, fun v => ?_⟩
  have hr := hs k (.int .i64 v) (by simp [valV]; omega)
  have e1 : (valV L).set k (.int .i64 v) = valV (L.set k (d.1, d.2.1, v)) := by simp [valV, List.map_set]
  have e2 : usedV L = usedV (L.set k (d.1, d.2.1, v)) := by
    simp only [usedV, List.map_set]
    exact (set_self _ _ _ (by simp [hd])).symm
  have e3 : genV L = genV (L.set k (d.1, d.2.1, v)) := by
    simp only [genV, List.map_set]
    exact (set_self _ _ _ (by simp [hd])).symm
  rw [e1] at hr
  rw [e2] at h2
  rw [e3] at h3
  have q2 : ∀ j, vu.ownBlock = some j → j ≠ vb := fun j hj hx => h2.disj h4 (by decide) j hj (by simp [Value.ownBlock, hx])
  have q3 : ∀ j, vg.ownBlock = some j → j ≠ vb := fun j hj hx => h10 j hj (by simp [Value.ownBlock, hx])
  exact ⟨vu, vg, _, by simpa using h1.far (p := ⟨vb, vo + k, none⟩) hne _, by simpa using h2.far (p := ⟨vb, vo + k, none⟩) q2 _, by simpa using h3.far (p := ⟨vb, vo + k, none⟩) q3 _, by simpa using hr, fun j hj => by simpa [World.setCell] using h5 j hj, h6, h7, h8, h9, h10⟩
end
set_option maxHeartbeats 1000000 in
theorem rsget_any (x : Nat) (F : List Nat) (lim n : Int) (L : List Slot) (i g : Int) (w : World) (h : RS w x F lim L n) :
    Calls Try.prog 29 #[.pointer (some ⟨x, 0, none⟩), .agg #[.int .i64 i, .int .i64 g]] w fun e w' => e = .returned (.tuple #[.int .i64 (getR L i g).1, .int .i64 (getR L i g).2]) ∧ Keeps [] w w' := by
  obtain ⟨y, hy⟩ : ∃ y, live L i g = y := ⟨_, rfl⟩
  unfold getR
  rw [hy]
  have H := hid h
  cases y with
  | none =>
    have HY := hid hy
    clear hy h
    simp only
    go_enter Try.func29, Try.ntmps29
    go_wp2_with fail
    refine (ris_dead x F lim n L i g _ (H.out.keeps ((Keeps.refl [] w).alloc _) (by simp)) HY.out).mono ?_
    rintro e w1 ⟨rfl, hk⟩
    go_wp2
    go_ret2
    exact ⟨rfl, ((Keeps.refl [] w).alloc _).trans hk (by simp)⟩
  | some y =>
    obtain ⟨k, v⟩ := y
    obtain ⟨rfl, hd⟩ := live_some hy
    obtain ⟨UA, uc, GA, gc, VA, vc, h1, h2, h3, hc⟩ := h.opened
    have hkl : k < L.length := (List.getElem?_eq_some_iff.1 hd).1
    obtain ⟨ub, uo, gb, go, vb, vo, rfl, rfl, rfl, hcc⟩ := hc (by omega)
    obtain ⟨-, -, c3⟩ := hcc k _ hd
    have HD := hid hd
    have n3 := fun o => alloc_cell h3 o
    have n4 := fun o => alloc_cell c3 o
    have hki : (k : Int) < L.length := by omega
    clear hy h hcc hd h1 h2 h3 hc c3
    simp only at n4 ⊢
    go_enter Try.func29, Try.ntmps29
    go_wp2_with fail
    refine (ris_live x F lim n L k g v _ (H.out.keeps ((Keeps.refl [] w).alloc _) (by simp)) HD.out).mono ?_
    rintro e w1 ⟨rfl, hk⟩
    have n5 := cell_keep hk (by simp) (n3 _)
    have n6 := cell_keep hk (by simp) (n4 _)
    have hbb := (Blk.new w 30 #[.int .i64 k, .int .i64 g]).keeps hk (by simp)
    have b0 := hbb.cell 0
    simp at b0
    clear n3 n4 hbb
    go_wp2_with fail
    go_quiet (fail)
    go_wp2
    go_ret2
    exact ⟨rfl, (((Keeps.refl [] w).alloc _).trans hk (by simp)).drewN _⟩
set_option maxHeartbeats 1000000 in
theorem rsset_any (x : Nat) (F : List Nat) (lim n : Int) (L : List Slot) (i g v : Int) (w : World) (h : RS w x F lim L n) :
    Calls Try.prog 27 #[.pointer (some ⟨x, 0, none⟩), .agg #[.int .i64 i, .int .i64 g], .int .i64 v] w fun e w' => e = .returned (.int .i64 (setR L i g v).2) ∧ RS w' x F lim (setR L i g v).1 n ∧ Keeps F w w' := by
  obtain ⟨y, hy⟩ : ∃ y, live L i g = y := ⟨_, rfl⟩
  unfold setR
  rw [hy]
  have H := hid h
  cases y with
  | none =>
    have HY := hid hy
    clear hy h
    simp only
    go_enter Try.func27, Try.ntmps27
    go_wp2_with fail
    refine (ris_dead x F lim n L i g _ (H.out.keeps ((Keeps.refl [] w).alloc _) (by simp)) HY.out).mono ?_
    rintro e w1 ⟨rfl, hk⟩
    go_wp2
    go_ret
    have hk2 := ((Keeps.refl [] w).alloc _).trans hk (by simp)
    exact ⟨rfl, H.out.keeps hk2 (by simp), hk2.mono (by simp)⟩
  | some y =>
    obtain ⟨k, v0⟩ := y
    obtain ⟨rfl, hd⟩ := live_some hy
    obtain ⟨UA, uc, GA, gc, VA, vc, h1, h2, h3, hc⟩ := h.opened
    have hkl : k < L.length := (List.getElem?_eq_some_iff.1 hd).1
    obtain ⟨ub, uo, gb, go, vb, vo, rfl, rfl, rfl, hcc⟩ := hc (by omega)
    obtain ⟨-, -, c3⟩ := hcc k _ hd
    have HD := hid hd
    have n3 := fun o => alloc_cell h3 o
    have n4 := fun o => alloc_cell c3 o
    have hki : (k : Int) < L.length := by omega
    clear hy h hcc hd h1 h2 h3 hc c3
    simp only at n4 ⊢
    go_enter Try.func27, Try.ntmps27
    go_wp2_with fail
    refine (ris_live x F lim n L k g v0 _ (H.out.keeps ((Keeps.refl [] w).alloc _) (by simp)) HD.out).mono ?_
    rintro e w1 ⟨rfl, hk⟩
    have n5 := cell_keep hk (by simp) (n3 _)
    have n6 := cell_keep hk (by simp) (n4 _)
    have hbb := (Blk.new w 30 #[.int .i64 k, .int .i64 g]).keeps hk (by simp)
    have b0 := hbb.cell 0
    simp at b0
    have hk2 := ((Keeps.refl [] w).alloc _).trans hk (by simp)
    obtain ⟨hbF, hbx, hfz, hst⟩ := (H.out.keeps hk2 (by simp)).setVal n5 HD.out
    have f3 := hfz (vo + k)
    have HST := hid (hst v)
    have HK := hid hk2
    clear n3 n4 hbb hst hfz hk hk2
    go_wp2_with fail
    go_region_law (fail)
    all_goals go_wp2
    all_goals
      go_ret
      exact ⟨rfl, HST.out.keeps ((Keeps.refl [] _).drew) (by simp), ((HK.out.mono (by simp)).setCell (.inl hbF) _).drew⟩
end Go.Proofs.Ytkeffebcmajhmaa
