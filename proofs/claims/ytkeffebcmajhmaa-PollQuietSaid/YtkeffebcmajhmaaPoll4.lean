/- The poller: its functions at nil; laws of the map's operations. -/
import Derived.Test.YtkeffebcmajhmaaPoll3
namespace Go.Proofs.Ytkeffebcmajhmaa
open Go.RowKit
set_option linter.unusedVariables false
set_option linter.unusedSimpArgs false
theorem watch_nil (id : Int) (a b c : Bool) (w : World) : Calls Try.prog 50 #[.pointer none, .int .i64 id, .bool a, .bool b, .bool c] w fun e w' => e = .returned (.tuple #[.agg #[.int .i64 0, .int .i64 0], .int .i64 1]) ∧ Keeps [] w w' := by
  go_enter Try.func50, Try.ntmps50
  go_wp2_with fail
  exact bodyPost_ret (v := .tuple #[.agg #[.int .i64 0, .int .i64 0], .int .i64 1]) (by simp [results, Try.results50, go_sem]) rfl ⟨rfl, by (repeat (first | exact Keeps.refl _ _ | exact .inr (Nat.le_refl _) | apply Keeps.drewN | apply Keeps.alloc | apply Keeps.setCell))⟩
theorem change_nil (i g : Int) (a b : Bool) (w : World) : Calls Try.prog 52 #[.pointer none, .agg #[.int .i64 i, .int .i64 g], .bool a, .bool b] w fun e w' => e = .returned (.int .i64 1) ∧ Keeps [] w w' := by
  go_enter Try.func52, Try.ntmps52
  go_wp2_with fail
  go_ret
  exact ⟨rfl, (Keeps.refl [] w).alloc _⟩
theorem drop_nil (v : Value) (w : World) : Calls Try.prog 53 #[.pointer none, v] w fun e w' => e = .returned (.int .i64 0) ∧ Keeps [] w w' := by
  go_enter Try.func53, Try.ntmps53
  go_wp2_with fail
  go_ret
  exact ⟨rfl, Keeps.refl [] w⟩
theorem wait_nil (v : Value) (w : World) : Calls Try.prog 54 #[.pointer none, v] w fun e w' => e = .returned (.slice none 0 0) ∧ Keeps [] w w' := by
  go_enter Try.func54, Try.ntmps54
  go_wp2_with fail
  go_ret
  exact ⟨rfl, Keeps.refl [] w⟩
theorem watched_nil (w : World) : Calls Try.prog 55 #[.pointer none] w fun e w' => e = .returned (.int .i64 0) ∧ Keeps [] w w' := by
  go_enter Try.func55, Try.ntmps55
  go_wp2_with fail
  go_ret
  exact ⟨rfl, Keeps.refl [] w⟩
section
variable {ops : Array Oper} {rest : List Oper} {o : Oper} {a : Act} {Q : Exit → Act → World → Prop} {w : World} {m clock : Nat} {es : List PE}
theorem wpList_lookH (hg : o.guard = none) (mo ko : Operand) (hop : o.op = Op.lookup 91 mo ko false) (s g : Int) (hm : a.eval mo = .map (some m)) (hk : a.eval ko = .agg #[.int .i64 s, .int .i64 g]) (h : MapB w m es clock)
    (hK : wpList Try.prog ops Q rest (a.put o.dst (lookE es s g)) w) : wpList Try.prog ops Q (o :: rest) a w := by
  refine wpList_plain hg fun K' hK' => ?_
  unfold Oper.wp
  simp [execOp, hop, hm, hk, run_lookH h, Result.andThen]
  exact hK' _ _ hK
theorem wpList_rangeH (hg : o.guard = none) (mo : Operand) (hop : o.op = Op.range 91 mo) (hm : a.eval mo = .map (some m)) (h : MapB w m es clock)
    (hK : wpList Try.prog ops Q rest (a.put o.dst (.pointer (some ⟨w.heap.size, 0, none⟩))) (w.alloc (.mapIter (some m) clock #[] clock))) : wpList Try.prog ops Q (o :: rest) a w := by
  refine wpList_plain hg fun K' hK' => ?_
  unfold Oper.wp
  simp [execOp, hop, hm, run_rangeH h, Result.andThen]
  exact hK' _ _ hK
theorem wpList_storeH (hg : o.guard = none) (mo ko vo : Operand) (hop : o.op = Op.mapUpdate 91 mo ko vo) (s g : Int) (p : Nat) (hm : a.eval mo = .map (some m)) (hk : a.eval ko = .agg #[.int .i64 s, .int .i64 g]) (hv : a.eval vo = .pointer (some ⟨p, 0, none⟩)) (h : MapB w m es clock)
    (hn : es.findIdx? (PE.is s g) = none) (hK : ∀ w', MapB w' m (es ++ [⟨s, g, p, clock⟩]) (clock + 1) → Keeps [m] w w' → wpList Try.prog ops Q rest (a.put o.dst (.tuple #[])) w') : wpList Try.prog ops Q (o :: rest) a w := by
  refine wpList_plain hg fun K' hK' => ?_
  obtain ⟨w', h1, h2, h3⟩ := run_storeH h s g p hn
  unfold Oper.wp
  simp [execOp, hop, hm, hk, hv, h1, Result.andThen]
  exact hK' _ _ (hK w' h2 h3)
end
end Go.Proofs.Ytkeffebcmajhmaa
