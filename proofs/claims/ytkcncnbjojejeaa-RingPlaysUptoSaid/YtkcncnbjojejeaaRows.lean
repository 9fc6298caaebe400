/-
  No cell of these rows narrows 'for every input' (looked for: loops, veiled, ifaces, maps, wideKeys, modest, calm, conditions, laid).
  DERIVED. THE GIVEN ROWS OF THIS SEAT. 9 by the template 'for every input the law returns true; each argument reads behind the call as it read before'; 0 by the template 'total and deterministic' (their statements: YtkcncnbjojejeaaTotals.lean).
  GIVEN WITH THE SEED: the statements are not yours to turn. If you find one false, say at which input.
  Laid BY PROGRAM, IN A SANDBOX (cutbox-rows.mjs): the forced cells as the released guide's own fill.sh prints them over the translation 8ce47cf3333e4fe3… (all of the seat's roots in one cut). By AI agents, Wed Nov 11 2026. No macro, syntax, notation, axiom, sorry.
-/
import Derived.Test.YtkcncnbjojejeaaChecked
import GoSem.Claim
import GoSem.ClaimJoined
import GoSem.ClaimMapViews
import Derived.JoinedTies
import Derived.KernelRfl
namespace Go.Proofs.Ytkcncnbjojejeaa
/- THE CELL 'sum', in the pinned program and in every row, IS THE sha256 OF THE DUMP (.gsa) THAT YtkcncnbjojejeaaProg.lean LOADS. Nothing in Lean hashes anything: it is a label: what it is worth is what the hold of that sum in a sandbox is worth. -/
noncomputable def Try.pinned : Pinned := { name := "ytkcncnbjojejeaa", sum := "8ce47cf3333e4fe37270ee4b3b637e9f9b672ac26e2b219b608b592bc92c0765", checked := Try.checked }
namespace Rows
def none {H : Type} : Left H := { results := [], args := [] }

/-- 'usherlaw3.RingPlays': WHATEVER THE INPUT: true; the input reads as it did. -/
def ringPlaysSpec : ChangeSpec := { name := "ringPlays", fn := fun _ => fun
  | [d1, d2] => { results := [.lit (.bool true)], args := [d1, d2] }
  | _ => none }
def ringPlaysRow : OpenClaim := { program := "ytkcncnbjojejeaa", sum := "8ce47cf3333e4fe37270ee4b3b637e9f9b672ac26e2b219b608b592bc92c0765", func := "usher/usherlaw3.RingPlays", spec := "ringPlays", apart := false }
def RingPlaysSaid : Prop := ringPlaysRow.holds Try.pinned (OpenSpec.ofChange ringPlaysSpec)

/-- ITS FALSE NEIGHBOUR: 'it returns false'. Refute it at one input. -/
def ringPlaysWrong : ChangeSpec := { name := "ringPlays", fn := fun _ => fun
  | [d1, d2] => { results := [.lit (.bool false)], args := [d1, d2] }
  | _ => none }
def RingPlaysWrongFalsely : Prop := ringPlaysRow.holds Try.pinned (OpenSpec.ofChange ringPlaysWrong)

/-- 'usherlaw3.RingFlows': WHATEVER THE INPUT: true; the input reads as it did. -/
def ringFlowsSpec : ChangeSpec := { name := "ringFlows", fn := fun _ => fun
  | [d1, d2, d3] => { results := [.lit (.bool true)], args := [d1, d2, d3] }
  | _ => none }
def ringFlowsRow : OpenClaim := { program := "ytkcncnbjojejeaa", sum := "8ce47cf3333e4fe37270ee4b3b637e9f9b672ac26e2b219b608b592bc92c0765", func := "usher/usherlaw3.RingFlows", spec := "ringFlows", apart := false }
def RingFlowsSaid : Prop := ringFlowsRow.holds Try.pinned (OpenSpec.ofChange ringFlowsSpec)

/-- ITS FALSE NEIGHBOUR: 'it returns false'. Refute it at one input. -/
def ringFlowsWrong : ChangeSpec := { name := "ringFlows", fn := fun _ => fun
  | [d1, d2, d3] => { results := [.lit (.bool false)], args := [d1, d2, d3] }
  | _ => none }
def RingFlowsWrongFalsely : Prop := ringFlowsRow.holds Try.pinned (OpenSpec.ofChange ringFlowsWrong)

/-- 'usherlaw3.RingOfNothing': WHATEVER THE INPUT: true; the input reads as it did. -/
def ringOfNothingSpec : ChangeSpec := { name := "ringOfNothing", fn := fun _ => fun
  | [d1, d2] => { results := [.lit (.bool true)], args := [d1, d2] }
  | _ => none }
def ringOfNothingRow : OpenClaim := { program := "ytkcncnbjojejeaa", sum := "8ce47cf3333e4fe37270ee4b3b637e9f9b672ac26e2b219b608b592bc92c0765", func := "usher/usherlaw3.RingOfNothing", spec := "ringOfNothing", apart := false }
def RingOfNothingSaid : Prop := ringOfNothingRow.holds Try.pinned (OpenSpec.ofChange ringOfNothingSpec)

/-- ITS FALSE NEIGHBOUR: 'it returns false'. Refute it at one input. -/
def ringOfNothingWrong : ChangeSpec := { name := "ringOfNothing", fn := fun _ => fun
  | [d1, d2] => { results := [.lit (.bool false)], args := [d1, d2] }
  | _ => none }
def RingOfNothingWrongFalsely : Prop := ringOfNothingRow.holds Try.pinned (OpenSpec.ofChange ringOfNothingWrong)

/-- 'usherlaw3.RingFinds': WHATEVER THE INPUT: true; the input reads as it did. -/
def ringFindsSpec : ChangeSpec := { name := "ringFinds", fn := fun _ => fun
  | [d1, d2, d3] => { results := [.lit (.bool true)], args := [d1, d2, d3] }
  | _ => none }
def ringFindsRow : OpenClaim := { program := "ytkcncnbjojejeaa", sum := "8ce47cf3333e4fe37270ee4b3b637e9f9b672ac26e2b219b608b592bc92c0765", func := "usher/usherlaw3.RingFinds", spec := "ringFinds", apart := false }
def RingFindsSaid : Prop := ringFindsRow.holds Try.pinned (OpenSpec.ofChange ringFindsSpec)

/-- ITS FALSE NEIGHBOUR: 'it returns false'. Refute it at one input. -/
def ringFindsWrong : ChangeSpec := { name := "ringFinds", fn := fun _ => fun
  | [d1, d2, d3] => { results := [.lit (.bool false)], args := [d1, d2, d3] }
  | _ => none }
def RingFindsWrongFalsely : Prop := ringFindsRow.holds Try.pinned (OpenSpec.ofChange ringFindsWrong)

/-- 'usherlaw3.RingFull': WHATEVER THE INPUT: true; the input reads as it did. -/
def ringFullSpec : ChangeSpec := { name := "ringFull", fn := fun _ => fun
  | [d1, d2, d3] => { results := [.lit (.bool true)], args := [d1, d2, d3] }
  | _ => none }
def ringFullRow : OpenClaim := { program := "ytkcncnbjojejeaa", sum := "8ce47cf3333e4fe37270ee4b3b637e9f9b672ac26e2b219b608b592bc92c0765", func := "usher/usherlaw3.RingFull", spec := "ringFull", apart := false }
def RingFullSaid : Prop := ringFullRow.holds Try.pinned (OpenSpec.ofChange ringFullSpec)

/-- ITS FALSE NEIGHBOUR: 'it returns false'. Refute it at one input. -/
def ringFullWrong : ChangeSpec := { name := "ringFull", fn := fun _ => fun
  | [d1, d2, d3] => { results := [.lit (.bool false)], args := [d1, d2, d3] }
  | _ => none }
def RingFullWrongFalsely : Prop := ringFullRow.holds Try.pinned (OpenSpec.ofChange ringFullWrong)

/-- 'usherlaw4.PoolOfNothing': WHATEVER THE INPUT: true; the input reads as it did. -/
def poolOfNothingSpec : ChangeSpec := { name := "poolOfNothing", fn := fun _ => fun
  | [d] => { results := [.lit (.bool true)], args := [d] }
  | _ => none }
def poolOfNothingRow : OpenClaim := { program := "ytkcncnbjojejeaa", sum := "8ce47cf3333e4fe37270ee4b3b637e9f9b672ac26e2b219b608b592bc92c0765", func := "usher/usherlaw4.PoolOfNothing", spec := "poolOfNothing", apart := false }
def PoolOfNothingSaid : Prop := poolOfNothingRow.holds Try.pinned (OpenSpec.ofChange poolOfNothingSpec)

/-- ITS FALSE NEIGHBOUR: 'it returns false'. Refute it at one input. -/
def poolOfNothingWrong : ChangeSpec := { name := "poolOfNothing", fn := fun _ => fun
  | [d] => { results := [.lit (.bool false)], args := [d] }
  | _ => none }
def PoolOfNothingWrongFalsely : Prop := poolOfNothingRow.holds Try.pinned (OpenSpec.ofChange poolOfNothingWrong)

/-- 'usherlaw4.PoolMost': WHATEVER THE INPUT: true; the input reads as it did. -/
def poolMostSpec : ChangeSpec := { name := "poolMost", fn := fun _ => fun
  | [d1, d2] => { results := [.lit (.bool true)], args := [d1, d2] }
  | _ => none }
def poolMostRow : OpenClaim := { program := "ytkcncnbjojejeaa", sum := "8ce47cf3333e4fe37270ee4b3b637e9f9b672ac26e2b219b608b592bc92c0765", func := "usher/usherlaw4.PoolMost", spec := "poolMost", apart := false }
def PoolMostSaid : Prop := poolMostRow.holds Try.pinned (OpenSpec.ofChange poolMostSpec)

/-- ITS FALSE NEIGHBOUR: 'it returns false'. Refute it at one input. -/
def poolMostWrong : ChangeSpec := { name := "poolMost", fn := fun _ => fun
  | [d1, d2] => { results := [.lit (.bool false)], args := [d1, d2] }
  | _ => none }
def PoolMostWrongFalsely : Prop := poolMostRow.holds Try.pinned (OpenSpec.ofChange poolMostWrong)

/-- 'usherlaw4.PoolPlays': WHATEVER THE INPUT: true; the input reads as it did. -/
def poolPlaysSpec : ChangeSpec := { name := "poolPlays", fn := fun _ => fun
  | [d1, d2, d3] => { results := [.lit (.bool true)], args := [d1, d2, d3] }
  | _ => none }
def poolPlaysRow : OpenClaim := { program := "ytkcncnbjojejeaa", sum := "8ce47cf3333e4fe37270ee4b3b637e9f9b672ac26e2b219b608b592bc92c0765", func := "usher/usherlaw4.PoolPlays", spec := "poolPlays", apart := false }
def PoolPlaysSaid : Prop := poolPlaysRow.holds Try.pinned (OpenSpec.ofChange poolPlaysSpec)

/-- ITS FALSE NEIGHBOUR: 'it returns false'. Refute it at one input. -/
def poolPlaysWrong : ChangeSpec := { name := "poolPlays", fn := fun _ => fun
  | [d1, d2, d3] => { results := [.lit (.bool false)], args := [d1, d2, d3] }
  | _ => none }
def PoolPlaysWrongFalsely : Prop := poolPlaysRow.holds Try.pinned (OpenSpec.ofChange poolPlaysWrong)

/-- 'usherlaw4.PoolApart': WHATEVER THE INPUT: true; the input reads as it did. -/
def poolApartSpec : ChangeSpec := { name := "poolApart", fn := fun _ => fun
  | [d1, d2, d3] => { results := [.lit (.bool true)], args := [d1, d2, d3] }
  | _ => none }
def poolApartRow : OpenClaim := { program := "ytkcncnbjojejeaa", sum := "8ce47cf3333e4fe37270ee4b3b637e9f9b672ac26e2b219b608b592bc92c0765", func := "usher/usherlaw4.PoolApart", spec := "poolApart", apart := false }
def PoolApartSaid : Prop := poolApartRow.holds Try.pinned (OpenSpec.ofChange poolApartSpec)

/-- ITS FALSE NEIGHBOUR: 'it returns false'. Refute it at one input. -/
def poolApartWrong : ChangeSpec := { name := "poolApart", fn := fun _ => fun
  | [d1, d2, d3] => { results := [.lit (.bool false)], args := [d1, d2, d3] }
  | _ => none }
def PoolApartWrongFalsely : Prop := poolApartRow.holds Try.pinned (OpenSpec.ofChange poolApartWrong)

/- THE SECOND FORM. 'bulk': how many values and letters a reading holds, each counted each time it is reached (what is shared counts as often as it is met; a slice's spare places count too). A statement '..UptoSaid' is the law's where the arguments, and the package variables that the reading takes, are together of bulk at most 1048576: NARROWER than '..Said'. Prove '..Said' where nothing that the law and all that it calls make is longer than what came in: it says more and counts as full. Else prove '..UptoSaid'. A law counts once. -/
mutual
def uptoBulk {H : Type} : DataW H → Nat
  | .lit (.string bytes) => bytes.length + 1
  | .lit _ => 1
  | .nil => 1
  | .ptr d => uptoBulk d + 1
  | .slice elems spare => uptoBulkAll elems + uptoBulkAll spare + 1
  | .agg parts => uptoBulkAll parts + 1
  | .iface _ d => uptoBulk d + 1
  | .map entries => uptoBulkEntries entries + 1
  | .held _ => 1
def uptoBulkAll {H : Type} : List (DataW H) → Nat
  | [] => 0
  | d :: r => uptoBulk d + uptoBulkAll r
def uptoBulkEntries {H : Type} : List (Lit × DataW H) → Nat
  | [] => 0
  | x :: r => uptoBulkEntry x + uptoBulkEntries r
def uptoBulkEntry {H : Type} : Lit × DataW H → Nat
  | (.string bytes, d) => bytes.length + uptoBulk d + 1
  | (_, d) => uptoBulk d + 1
 end
def uptoSmall : (H : Type) → List (DataW H) → Bool := fun _ ds => decide (uptoBulkAll ds ≤ 1048576)
def OpenSpec.upto (s : _root_.Go.ChangeSpec) : _root_.Go.OpenSpec := { _root_.Go.OpenSpec.ofChange s with cond := some uptoSmall }

/-- 'usherlaw3.RingPlays', WHERE WHAT IT READS IS OF BULK AT MOST 1048576: true; the input reads as it did. -/
def ringPlaysUptoRow : OpenClaim := { program := "ytkcncnbjojejeaa", sum := "8ce47cf3333e4fe37270ee4b3b637e9f9b672ac26e2b219b608b592bc92c0765", func := "usher/usherlaw3.RingPlays", spec := "ringPlays", apart := false, narrowed := true }
def RingPlaysUptoSaid : Prop := ringPlaysUptoRow.holds Try.pinned (OpenSpec.upto ringPlaysSpec)

/-- 'usherlaw3.RingFlows', WHERE WHAT IT READS IS OF BULK AT MOST 1048576: true; the input reads as it did. -/
def ringFlowsUptoRow : OpenClaim := { program := "ytkcncnbjojejeaa", sum := "8ce47cf3333e4fe37270ee4b3b637e9f9b672ac26e2b219b608b592bc92c0765", func := "usher/usherlaw3.RingFlows", spec := "ringFlows", apart := false, narrowed := true }
def RingFlowsUptoSaid : Prop := ringFlowsUptoRow.holds Try.pinned (OpenSpec.upto ringFlowsSpec)

/-- 'usherlaw3.RingOfNothing', WHERE WHAT IT READS IS OF BULK AT MOST 1048576: true; the input reads as it did. -/
def ringOfNothingUptoRow : OpenClaim := { program := "ytkcncnbjojejeaa", sum := "8ce47cf3333e4fe37270ee4b3b637e9f9b672ac26e2b219b608b592bc92c0765", func := "usher/usherlaw3.RingOfNothing", spec := "ringOfNothing", apart := false, narrowed := true }
def RingOfNothingUptoSaid : Prop := ringOfNothingUptoRow.holds Try.pinned (OpenSpec.upto ringOfNothingSpec)

/-- 'usherlaw3.RingFinds', WHERE WHAT IT READS IS OF BULK AT MOST 1048576: true; the input reads as it did. -/
def ringFindsUptoRow : OpenClaim := { program := "ytkcncnbjojejeaa", sum := "8ce47cf3333e4fe37270ee4b3b637e9f9b672ac26e2b219b608b592bc92c0765", func := "usher/usherlaw3.RingFinds", spec := "ringFinds", apart := false, narrowed := true }
def RingFindsUptoSaid : Prop := ringFindsUptoRow.holds Try.pinned (OpenSpec.upto ringFindsSpec)

/-- 'usherlaw3.RingFull', WHERE WHAT IT READS IS OF BULK AT MOST 1048576: true; the input reads as it did. -/
def ringFullUptoRow : OpenClaim := { program := "ytkcncnbjojejeaa", sum := "8ce47cf3333e4fe37270ee4b3b637e9f9b672ac26e2b219b608b592bc92c0765", func := "usher/usherlaw3.RingFull", spec := "ringFull", apart := false, narrowed := true }
def RingFullUptoSaid : Prop := ringFullUptoRow.holds Try.pinned (OpenSpec.upto ringFullSpec)

/-- 'usherlaw4.PoolOfNothing', WHERE WHAT IT READS IS OF BULK AT MOST 1048576: true; the input reads as it did. -/
def poolOfNothingUptoRow : OpenClaim := { program := "ytkcncnbjojejeaa", sum := "8ce47cf3333e4fe37270ee4b3b637e9f9b672ac26e2b219b608b592bc92c0765", func := "usher/usherlaw4.PoolOfNothing", spec := "poolOfNothing", apart := false, narrowed := true }
def PoolOfNothingUptoSaid : Prop := poolOfNothingUptoRow.holds Try.pinned (OpenSpec.upto poolOfNothingSpec)

/-- 'usherlaw4.PoolMost', WHERE WHAT IT READS IS OF BULK AT MOST 1048576: true; the input reads as it did. -/
def poolMostUptoRow : OpenClaim := { program := "ytkcncnbjojejeaa", sum := "8ce47cf3333e4fe37270ee4b3b637e9f9b672ac26e2b219b608b592bc92c0765", func := "usher/usherlaw4.PoolMost", spec := "poolMost", apart := false, narrowed := true }
def PoolMostUptoSaid : Prop := poolMostUptoRow.holds Try.pinned (OpenSpec.upto poolMostSpec)

/-- 'usherlaw4.PoolPlays', WHERE WHAT IT READS IS OF BULK AT MOST 1048576: true; the input reads as it did. -/
def poolPlaysUptoRow : OpenClaim := { program := "ytkcncnbjojejeaa", sum := "8ce47cf3333e4fe37270ee4b3b637e9f9b672ac26e2b219b608b592bc92c0765", func := "usher/usherlaw4.PoolPlays", spec := "poolPlays", apart := false, narrowed := true }
def PoolPlaysUptoSaid : Prop := poolPlaysUptoRow.holds Try.pinned (OpenSpec.upto poolPlaysSpec)

/-- 'usherlaw4.PoolApart', WHERE WHAT IT READS IS OF BULK AT MOST 1048576: true; the input reads as it did. -/
def poolApartUptoRow : OpenClaim := { program := "ytkcncnbjojejeaa", sum := "8ce47cf3333e4fe37270ee4b3b637e9f9b672ac26e2b219b608b592bc92c0765", func := "usher/usherlaw4.PoolApart", spec := "poolApart", apart := false, narrowed := true }
def PoolApartUptoSaid : Prop := poolApartUptoRow.holds Try.pinned (OpenSpec.upto poolApartSpec)

end Rows
end Go.Proofs.Ytkcncnbjojejeaa
