/- The statement 'PollOfNothingSaid' is proved: the law returns true and its arguments read as before. -/
import Derived.Test.YtkeffebcmajhmaaPollOfNothingWalk
import Derived.Test.YtkeffebcmajhmaaRows
import Derived.Lib.SmallJoins
import Derived.WalkKit
import Derived.ProofKit
import Derived.OpenShut
import Derived.ShutString
import Derived.ChangeOld
import Derived.Below
namespace Go.Proofs.Ytkeffebcmajhmaa.pollOfNothing
open Go.ChangeShapes Go.WideShapes Go.ChangeAt Go.RowKit
open Go.ChangeMaps (open_string shut_string)
set_option linter.unusedVariables false

theorem own : ownKnob Try.prog.godebug = none := by kernel_rfl
theorem laidOut : laidOutB Try.prog = true := by kernel_rfl

set_option maxRecDepth 100000 in
theorem lifted (os : Os) (started : os.Started) (H : Type) (enc : TypeId × Value → H) :
    ReturnsInHanded {} Try.checked os 11 .any (Rows.pollOfNothingSpec.pre6 enc Try.prog Try.f11 Rows.pollOfNothingRow.domain false) (Rows.pollOfNothingSpec.post enc Try.prog Try.f11 false true false false) := by
  refine returnsInHanded_of_change (C := Try.checked) own started (by kernel_rfl) Try.func11
    (ChangeSpec.witness6 (enc := enc) (C := Try.checked) false ⟨#[], #[.int .i64 0, .agg #[.int .i64 0, .int .i64 0]], []⟩ 8 (by kernel_rfl) (by kernel_rfl) (by kernel_rfl) (by kernel_rfl)) ?_
  intro W base args ds gs before hval0 hW hcnd _
  have hval : ∀ (j : Nat) t v, Try.f11.params[j]? = some t → args[j]? = some v → Value.okWide Try.prog W .any base t v := hval0
  have hW' := hW
  obtain ⟨p, q, hA0, hV, rfl, hfz, hnd⟩ := hW
  have hA : DataW.TrodAll enc Try.prog W 0 (fun _ => true) true Try.f11.params.toList args.toList ds p := hA0
  rw [Try.params11] at hA hval
  obtain ⟨v0, vs0, d0, ds0, p0, q0, hargs, rfl, rfl, h0, r0⟩ := trodAll_cons hA
  obtain ⟨v1, vs1, d1, ds1, p1, q1, rfl, rfl, rfl, h1, r1⟩ := trodAll_cons r0
  obtain ⟨rfl, rfl, rfl⟩ := trodAll_nil r1
  obtain rfl : args = #[v0, v1] := by cases args; simp_all
  obtain ⟨rfl, rfl⟩ := trodVars_none hV
  obtain ⟨a0, rfl, rfl, rfl, w0⟩ := open_int Try.underlying3 (hval 0 3 v0 rfl rfl) h0
  obtain ⟨c0_1, c1_1, y0_1, y1_1, m_1, rfl, rfl, rfl, hy0_1, hy1_1⟩ := Joins.open_agg2 Try.underlying30 (by kernel_rfl) (by kernel_rfl) (hval 1 30 v1 rfl rfl) h1
  obtain ⟨a1, e0_1, rfl, wa1⟩ := DataW.trod_int Try.underlying3 hy0_1
  obtain ⟨b1, e1_1, rfl, wb1⟩ := DataW.trod_int Try.underlying3 hy1_1
  simp at e0_1 e1_1
  subst e0_1 e1_1
  clear hA0 hval0
  refine (pollOfNothing_walk W a0 w0 a1 b1).mono fun e W' ⟨he, bel⟩ => ?_
  subst he
  exact ⟨_, rfl, _, _, _, [], _, [], hW', trodAll_mk1 (shut_bool Try.underlying4 _), (trodAll_cons_mk (shut_int Try.underlying3 w0) (trodAll_cons_mk (Joins.shut_agg2 (y0 := (.lit (.int .i64 a1), [])) (y1 := (.lit (.int .i64 b1), [])) Try.underlying30 (by kernel_rfl) (by kernel_rfl) ⟨1, (by show DataW.trod enc Try.prog _ 0 _ true 1 3 [.int .i64 a1] = _; simp [DataW.trod, Try.underlying3, wa1])⟩ ⟨1, (by show DataW.trod enc Try.prog _ 0 _ true 1 3 [.int .i64 b1] = _; simp [DataW.trod, Try.underlying3, wb1])⟩) trodAll_mk0)), rfl, bel.frame _, fun h => by cases h⟩

theorem over : Rows.pollOfNothingRow.holds Try.pinned (OpenSpec.ofChange Rows.pollOfNothingSpec) :=
  OpenClaim.holds_of_wide 11 Try.f11 rfl rfl rfl rfl rfl rfl rfl ⟨rfl, rfl, rfl, rfl, rfl⟩ rfl rfl rfl rfl rfl (by kernel_rfl) Try.func11 (by kernel_rfl)
    (of_decide_eq_true (by kernel_rfl)) (by unfold Func.isWrapper; first | (rw [if_pos (by decide +kernel)]; kernel_rfl) | (rw [if_neg (by decide +kernel)]; exact ⟨rfl, rfl⟩))
    (fun os started H enc _ => lifted os started H enc)

/-- The statement. -/
theorem proved : Rows.PollOfNothingSaid := over
#print axioms proved
end Go.Proofs.Ytkeffebcmajhmaa.pollOfNothing
