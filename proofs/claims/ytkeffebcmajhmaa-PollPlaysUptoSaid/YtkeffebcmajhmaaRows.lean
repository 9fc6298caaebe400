/-
  No cell of these rows narrows 'for every input' (looked for: loops, veiled, ifaces, maps, wideKeys, modest, calm, conditions, laid).
  DERIVED. THE GIVEN ROWS OF THIS SEAT. 15 by the template 'for every input the law returns true; each argument reads behind the call as it read before'; 0 by the template 'total and deterministic' (their statements: YtkeffebcmajhmaaTotals.lean).
  GIVEN WITH THE SEED: the statements are not yours to turn. If you find one false, say at which input.
  Laid BY PROGRAM, IN A SANDBOX (cutbox-rows.mjs): the forced cells as the released guide's own fill.sh prints them over the translation 50e8d5de5c403190… (all of the seat's roots in one cut). By AI agents, Wed Nov 11 2026. No macro, syntax, notation, axiom, sorry.
-/
import Derived.Test.YtkeffebcmajhmaaChecked
import GoSem.Claim
import GoSem.ClaimJoined
import GoSem.ClaimMapViews
import Derived.JoinedTies
import Derived.KernelRfl
namespace Go.Proofs.Ytkeffebcmajhmaa
/- THE CELL 'sum', in the pinned program and in every row, IS THE sha256 OF THE DUMP (.gsa) THAT YtkeffebcmajhmaaProg.lean LOADS. Nothing in Lean hashes anything: it is a label: what it is worth is what the hold of that sum in a sandbox is worth. -/
noncomputable def Try.pinned : Pinned := { name := "ytkeffebcmajhmaa", sum := "50e8d5de5c4031901a819026dca9442adaeee9eb39e4943bf540b7bdbead9dfa", checked := Try.checked }
namespace Rows
def none {H : Type} : Left H := { results := [], args := [] }

/-- 'usherlaw2.SlabFull': WHATEVER THE INPUT: true; the input reads as it did. -/
def slabFullSpec : ChangeSpec := { name := "slabFull", fn := fun _ => fun
  | [d1, d2] => { results := [.lit (.bool true)], args := [d1, d2] }
  | _ => none }
def slabFullRow : OpenClaim := { program := "ytkeffebcmajhmaa", sum := "50e8d5de5c4031901a819026dca9442adaeee9eb39e4943bf540b7bdbead9dfa", func := "usher/usherlaw2.SlabFull", spec := "slabFull", plainKeys := false, apart := false }
def SlabFullSaid : Prop := slabFullRow.holds Try.pinned (OpenSpec.ofChange slabFullSpec)

/-- ITS FALSE NEIGHBOUR: 'it returns false'. Refute it at one input. -/
def slabFullWrong : ChangeSpec := { name := "slabFull", fn := fun _ => fun
  | [d1, d2] => { results := [.lit (.bool false)], args := [d1, d2] }
  | _ => none }
def SlabFullWrongFalsely : Prop := slabFullRow.holds Try.pinned (OpenSpec.ofChange slabFullWrong)

/-- 'usherlaw2.SlabOld': WHATEVER THE INPUT: true; the input reads as it did. -/
def slabOldSpec : ChangeSpec := { name := "slabOld", fn := fun _ => fun
  | [d1, d2] => { results := [.lit (.bool true)], args := [d1, d2] }
  | _ => none }
def slabOldRow : OpenClaim := { program := "ytkeffebcmajhmaa", sum := "50e8d5de5c4031901a819026dca9442adaeee9eb39e4943bf540b7bdbead9dfa", func := "usher/usherlaw2.SlabOld", spec := "slabOld", plainKeys := false, apart := false }
def SlabOldSaid : Prop := slabOldRow.holds Try.pinned (OpenSpec.ofChange slabOldSpec)

/-- ITS FALSE NEIGHBOUR: 'it returns false'. Refute it at one input. -/
def slabOldWrong : ChangeSpec := { name := "slabOld", fn := fun _ => fun
  | [d1, d2] => { results := [.lit (.bool false)], args := [d1, d2] }
  | _ => none }
def SlabOldWrongFalsely : Prop := slabOldRow.holds Try.pinned (OpenSpec.ofChange slabOldWrong)

/-- 'usherlaw2.SlabPlays': WHATEVER THE INPUT: true; the input reads as it did. -/
def slabPlaysSpec : ChangeSpec := { name := "slabPlays", fn := fun _ => fun
  | [d1, d2] => { results := [.lit (.bool true)], args := [d1, d2] }
  | _ => none }
def slabPlaysRow : OpenClaim := { program := "ytkeffebcmajhmaa", sum := "50e8d5de5c4031901a819026dca9442adaeee9eb39e4943bf540b7bdbead9dfa", func := "usher/usherlaw2.SlabPlays", spec := "slabPlays", plainKeys := false, apart := false }
def SlabPlaysSaid : Prop := slabPlaysRow.holds Try.pinned (OpenSpec.ofChange slabPlaysSpec)

/-- ITS FALSE NEIGHBOUR: 'it returns false'. Refute it at one input. -/
def slabPlaysWrong : ChangeSpec := { name := "slabPlays", fn := fun _ => fun
  | [d1, d2] => { results := [.lit (.bool false)], args := [d1, d2] }
  | _ => none }
def SlabPlaysWrongFalsely : Prop := slabPlaysRow.holds Try.pinned (OpenSpec.ofChange slabPlaysWrong)

/-- 'usherlaw2.SlabOfNothing': WHATEVER THE INPUT: true; the input reads as it did. -/
def slabOfNothingSpec : ChangeSpec := { name := "slabOfNothing", fn := fun _ => fun
  | [d1, d2] => { results := [.lit (.bool true)], args := [d1, d2] }
  | _ => none }
def slabOfNothingRow : OpenClaim := { program := "ytkeffebcmajhmaa", sum := "50e8d5de5c4031901a819026dca9442adaeee9eb39e4943bf540b7bdbead9dfa", func := "usher/usherlaw2.SlabOfNothing", spec := "slabOfNothing", plainKeys := false, apart := false }
def SlabOfNothingSaid : Prop := slabOfNothingRow.holds Try.pinned (OpenSpec.ofChange slabOfNothingSpec)

/-- ITS FALSE NEIGHBOUR: 'it returns false'. Refute it at one input. -/
def slabOfNothingWrong : ChangeSpec := { name := "slabOfNothing", fn := fun _ => fun
  | [d1, d2] => { results := [.lit (.bool false)], args := [d1, d2] }
  | _ => none }
def SlabOfNothingWrongFalsely : Prop := slabOfNothingRow.holds Try.pinned (OpenSpec.ofChange slabOfNothingWrong)

/-- 'usherlaw7.NetFails': WHATEVER THE INPUT: true; the input reads as it did. -/
def netFailsSpec : ChangeSpec := { name := "netFails", fn := fun _ => fun
  | [d1, d2] => { results := [.lit (.bool true)], args := [d1, d2] }
  | _ => none }
def netFailsRow : OpenClaim := { program := "ytkeffebcmajhmaa", sum := "50e8d5de5c4031901a819026dca9442adaeee9eb39e4943bf540b7bdbead9dfa", func := "usher/usherlaw7.NetFails", spec := "netFails", plainKeys := false, apart := false }
def NetFailsSaid : Prop := netFailsRow.holds Try.pinned (OpenSpec.ofChange netFailsSpec)

/-- ITS FALSE NEIGHBOUR: 'it returns false'. Refute it at one input. -/
def netFailsWrong : ChangeSpec := { name := "netFails", fn := fun _ => fun
  | [d1, d2] => { results := [.lit (.bool false)], args := [d1, d2] }
  | _ => none }
def NetFailsWrongFalsely : Prop := netFailsRow.holds Try.pinned (OpenSpec.ofChange netFailsWrong)

/-- 'usherlaw7.NetLine': WHATEVER THE INPUT: true; the input reads as it did. -/
def netLineSpec : ChangeSpec := { name := "netLine", fn := fun _ => fun
  | [d1, d2] => { results := [.lit (.bool true)], args := [d1, d2] }
  | _ => none }
def netLineRow : OpenClaim := { program := "ytkeffebcmajhmaa", sum := "50e8d5de5c4031901a819026dca9442adaeee9eb39e4943bf540b7bdbead9dfa", func := "usher/usherlaw7.NetLine", spec := "netLine", plainKeys := false, apart := false }
def NetLineSaid : Prop := netLineRow.holds Try.pinned (OpenSpec.ofChange netLineSpec)

/-- ITS FALSE NEIGHBOUR: 'it returns false'. Refute it at one input. -/
def netLineWrong : ChangeSpec := { name := "netLine", fn := fun _ => fun
  | [d1, d2] => { results := [.lit (.bool false)], args := [d1, d2] }
  | _ => none }
def NetLineWrongFalsely : Prop := netLineRow.holds Try.pinned (OpenSpec.ofChange netLineWrong)

/-- 'usherlaw7.NetFlows': WHATEVER THE INPUT: true; the input reads as it did. -/
def netFlowsSpec : ChangeSpec := { name := "netFlows", fn := fun _ => fun
  | [d1, d2, d3] => { results := [.lit (.bool true)], args := [d1, d2, d3] }
  | _ => none }
def netFlowsRow : OpenClaim := { program := "ytkeffebcmajhmaa", sum := "50e8d5de5c4031901a819026dca9442adaeee9eb39e4943bf540b7bdbead9dfa", func := "usher/usherlaw7.NetFlows", spec := "netFlows", plainKeys := false, apart := false }
def NetFlowsSaid : Prop := netFlowsRow.holds Try.pinned (OpenSpec.ofChange netFlowsSpec)

/-- ITS FALSE NEIGHBOUR: 'it returns false'. Refute it at one input. -/
def netFlowsWrong : ChangeSpec := { name := "netFlows", fn := fun _ => fun
  | [d1, d2, d3] => { results := [.lit (.bool false)], args := [d1, d2, d3] }
  | _ => none }
def NetFlowsWrongFalsely : Prop := netFlowsRow.holds Try.pinned (OpenSpec.ofChange netFlowsWrong)

/-- 'usherlaw7.NetEnds': WHATEVER THE INPUT: true; the input reads as it did. -/
def netEndsSpec : ChangeSpec := { name := "netEnds", fn := fun _ => fun
  | [d1, d2] => { results := [.lit (.bool true)], args := [d1, d2] }
  | _ => none }
def netEndsRow : OpenClaim := { program := "ytkeffebcmajhmaa", sum := "50e8d5de5c4031901a819026dca9442adaeee9eb39e4943bf540b7bdbead9dfa", func := "usher/usherlaw7.NetEnds", spec := "netEnds", plainKeys := false, apart := false }
def NetEndsSaid : Prop := netEndsRow.holds Try.pinned (OpenSpec.ofChange netEndsSpec)

/-- ITS FALSE NEIGHBOUR: 'it returns false'. Refute it at one input. -/
def netEndsWrong : ChangeSpec := { name := "netEnds", fn := fun _ => fun
  | [d1, d2] => { results := [.lit (.bool false)], args := [d1, d2] }
  | _ => none }
def NetEndsWrongFalsely : Prop := netEndsRow.holds Try.pinned (OpenSpec.ofChange netEndsWrong)

/-- 'usherlaw8.PollOfNothing': WHATEVER THE INPUT: true; the input reads as it did. -/
def pollOfNothingSpec : ChangeSpec := { name := "pollOfNothing", fn := fun _ => fun
  | [d1, d2] => { results := [.lit (.bool true)], args := [d1, d2] }
  | _ => none }
def pollOfNothingRow : OpenClaim := { program := "ytkeffebcmajhmaa", sum := "50e8d5de5c4031901a819026dca9442adaeee9eb39e4943bf540b7bdbead9dfa", func := "usher/usherlaw8.PollOfNothing", spec := "pollOfNothing", plainKeys := false, apart := false }
def PollOfNothingSaid : Prop := pollOfNothingRow.holds Try.pinned (OpenSpec.ofChange pollOfNothingSpec)

/-- ITS FALSE NEIGHBOUR: 'it returns false'. Refute it at one input. -/
def pollOfNothingWrong : ChangeSpec := { name := "pollOfNothing", fn := fun _ => fun
  | [d1, d2] => { results := [.lit (.bool false)], args := [d1, d2] }
  | _ => none }
def PollOfNothingWrongFalsely : Prop := pollOfNothingRow.holds Try.pinned (OpenSpec.ofChange pollOfNothingWrong)

/-- 'usherlaw8.PollPicks': WHATEVER THE INPUT: true; the input reads as it did. -/
def pollPicksSpec : ChangeSpec := { name := "pollPicks", fn := fun _ => fun
  | [d1, d2] => { results := [.lit (.bool true)], args := [d1, d2] }
  | _ => none }
def pollPicksRow : OpenClaim := { program := "ytkeffebcmajhmaa", sum := "50e8d5de5c4031901a819026dca9442adaeee9eb39e4943bf540b7bdbead9dfa", func := "usher/usherlaw8.PollPicks", spec := "pollPicks", plainKeys := false, apart := false }
def PollPicksSaid : Prop := pollPicksRow.holds Try.pinned (OpenSpec.ofChange pollPicksSpec)

/-- ITS FALSE NEIGHBOUR: 'it returns false'. Refute it at one input. -/
def pollPicksWrong : ChangeSpec := { name := "pollPicks", fn := fun _ => fun
  | [d1, d2] => { results := [.lit (.bool false)], args := [d1, d2] }
  | _ => none }
def PollPicksWrongFalsely : Prop := pollPicksRow.holds Try.pinned (OpenSpec.ofChange pollPicksWrong)

/-- 'usherlaw8.PollEdges': WHATEVER THE INPUT: true; the input reads as it did. -/
def pollEdgesSpec : ChangeSpec := { name := "pollEdges", fn := fun _ => fun
  | [d1, d2] => { results := [.lit (.bool true)], args := [d1, d2] }
  | _ => none }
def pollEdgesRow : OpenClaim := { program := "ytkeffebcmajhmaa", sum := "50e8d5de5c4031901a819026dca9442adaeee9eb39e4943bf540b7bdbead9dfa", func := "usher/usherlaw8.PollEdges", spec := "pollEdges", plainKeys := false, apart := false }
def PollEdgesSaid : Prop := pollEdgesRow.holds Try.pinned (OpenSpec.ofChange pollEdgesSpec)

/-- ITS FALSE NEIGHBOUR: 'it returns false'. Refute it at one input. -/
def pollEdgesWrong : ChangeSpec := { name := "pollEdges", fn := fun _ => fun
  | [d1, d2] => { results := [.lit (.bool false)], args := [d1, d2] }
  | _ => none }
def PollEdgesWrongFalsely : Prop := pollEdgesRow.holds Try.pinned (OpenSpec.ofChange pollEdgesWrong)

/-- 'usherlaw7.NetPlays': WHATEVER THE INPUT: true; the input reads as it did. -/
def netPlaysSpec : ChangeSpec := { name := "netPlays", fn := fun _ => fun
  | [d1, d2] => { results := [.lit (.bool true)], args := [d1, d2] }
  | _ => none }
def netPlaysRow : OpenClaim := { program := "ytkeffebcmajhmaa", sum := "50e8d5de5c4031901a819026dca9442adaeee9eb39e4943bf540b7bdbead9dfa", func := "usher/usherlaw7.NetPlays", spec := "netPlays", plainKeys := false, apart := false }
def NetPlaysSaid : Prop := netPlaysRow.holds Try.pinned (OpenSpec.ofChange netPlaysSpec)

/-- ITS FALSE NEIGHBOUR: 'it returns false'. Refute it at one input. -/
def netPlaysWrong : ChangeSpec := { name := "netPlays", fn := fun _ => fun
  | [d1, d2] => { results := [.lit (.bool false)], args := [d1, d2] }
  | _ => none }
def NetPlaysWrongFalsely : Prop := netPlaysRow.holds Try.pinned (OpenSpec.ofChange netPlaysWrong)

/-- 'usherlaw7.NetOfNothing': WHATEVER THE INPUT: true; the input reads as it did. -/
def netOfNothingSpec : ChangeSpec := { name := "netOfNothing", fn := fun _ => fun
  | [d1, d2] => { results := [.lit (.bool true)], args := [d1, d2] }
  | _ => none }
def netOfNothingRow : OpenClaim := { program := "ytkeffebcmajhmaa", sum := "50e8d5de5c4031901a819026dca9442adaeee9eb39e4943bf540b7bdbead9dfa", func := "usher/usherlaw7.NetOfNothing", spec := "netOfNothing", plainKeys := false, apart := false }
def NetOfNothingSaid : Prop := netOfNothingRow.holds Try.pinned (OpenSpec.ofChange netOfNothingSpec)

/-- ITS FALSE NEIGHBOUR: 'it returns false'. Refute it at one input. -/
def netOfNothingWrong : ChangeSpec := { name := "netOfNothing", fn := fun _ => fun
  | [d1, d2] => { results := [.lit (.bool false)], args := [d1, d2] }
  | _ => none }
def NetOfNothingWrongFalsely : Prop := netOfNothingRow.holds Try.pinned (OpenSpec.ofChange netOfNothingWrong)

/-- 'usherlaw8.PollQuiet': WHATEVER THE INPUT: true; the input reads as it did. -/
def pollQuietSpec : ChangeSpec := { name := "pollQuiet", fn := fun _ => fun
  | [d1, d2, d3, d4] => { results := [.lit (.bool true)], args := [d1, d2, d3, d4] }
  | _ => none }
def pollQuietRow : OpenClaim := { program := "ytkeffebcmajhmaa", sum := "50e8d5de5c4031901a819026dca9442adaeee9eb39e4943bf540b7bdbead9dfa", func := "usher/usherlaw8.PollQuiet", spec := "pollQuiet", plainKeys := false, apart := false }
def PollQuietSaid : Prop := pollQuietRow.holds Try.pinned (OpenSpec.ofChange pollQuietSpec)

/-- ITS FALSE NEIGHBOUR: 'it returns false'. Refute it at one input. -/
def pollQuietWrong : ChangeSpec := { name := "pollQuiet", fn := fun _ => fun
  | [d1, d2, d3, d4] => { results := [.lit (.bool false)], args := [d1, d2, d3, d4] }
  | _ => none }
def PollQuietWrongFalsely : Prop := pollQuietRow.holds Try.pinned (OpenSpec.ofChange pollQuietWrong)

/-- 'usherlaw8.PollPlays': WHATEVER THE INPUT: true; the input reads as it did. -/
def pollPlaysSpec : ChangeSpec := { name := "pollPlays", fn := fun _ => fun
  | [d] => { results := [.lit (.bool true)], args := [d] }
  | _ => none }
def pollPlaysRow : OpenClaim := { program := "ytkeffebcmajhmaa", sum := "50e8d5de5c4031901a819026dca9442adaeee9eb39e4943bf540b7bdbead9dfa", func := "usher/usherlaw8.PollPlays", spec := "pollPlays", plainKeys := false, apart := false }
def PollPlaysSaid : Prop := pollPlaysRow.holds Try.pinned (OpenSpec.ofChange pollPlaysSpec)

/-- ITS FALSE NEIGHBOUR: 'it returns false'. Refute it at one input. -/
def pollPlaysWrong : ChangeSpec := { name := "pollPlays", fn := fun _ => fun
  | [d] => { results := [.lit (.bool false)], args := [d] }
  | _ => none }
def PollPlaysWrongFalsely : Prop := pollPlaysRow.holds Try.pinned (OpenSpec.ofChange pollPlaysWrong)

/- THE SECOND FORM. 'bulk': how many values and letters a reading holds, each counted each time it is reached (what is shared counts as often as it is met; a slice's spare places count too). A statement '..UptoSaid' is the law's where the arguments, and the package variables that the reading takes, are together of bulk at most 1048576: NARROWER than '..Said'. Prove '..Said' where nothing that the law and all that it calls make is longer than what came in: it says more and counts as full. Else prove '..UptoSaid'. A law counts once. -/
mutual
def uptoBulk {H : Type} : DataW H → Nat
  | .lit (.string bytes) => bytes.length + 1
  | .lit _ => 1
  | .nil => 1
  | .ptr d => uptoBulk d + 1
  | .slice elems spare => uptoBulkAll elems + uptoBulkAll spare + 1
  | .agg parts => uptoBulkAll parts + 1
  | .iface _ d => uptoBulk d + 1
  | .map entries => uptoBulkEntries entries + 1
  | .held _ => 1
def uptoBulkAll {H : Type} : List (DataW H) → Nat
  | [] => 0
  | d :: r => uptoBulk d + uptoBulkAll r
def uptoBulkEntries {H : Type} : List (Lit × DataW H) → Nat
  | [] => 0
  | x :: r => uptoBulkEntry x + uptoBulkEntries r
def uptoBulkEntry {H : Type} : Lit × DataW H → Nat
  | (.string bytes, d) => bytes.length + uptoBulk d + 1
  | (_, d) => uptoBulk d + 1
 end
def uptoSmall : (H : Type) → List (DataW H) → Bool := fun _ ds => decide (uptoBulkAll ds ≤ 1048576)
def OpenSpec.upto (s : _root_.Go.ChangeSpec) : _root_.Go.OpenSpec := { _root_.Go.OpenSpec.ofChange s with cond := some uptoSmall }

/-- 'usherlaw2.SlabFull', WHERE WHAT IT READS IS OF BULK AT MOST 1048576: true; the input reads as it did. -/
def slabFullUptoRow : OpenClaim := { program := "ytkeffebcmajhmaa", sum := "50e8d5de5c4031901a819026dca9442adaeee9eb39e4943bf540b7bdbead9dfa", func := "usher/usherlaw2.SlabFull", spec := "slabFull", plainKeys := false, apart := false, narrowed := true }
def SlabFullUptoSaid : Prop := slabFullUptoRow.holds Try.pinned (OpenSpec.upto slabFullSpec)

/-- 'usherlaw2.SlabOld', WHERE WHAT IT READS IS OF BULK AT MOST 1048576: true; the input reads as it did. -/
def slabOldUptoRow : OpenClaim := { program := "ytkeffebcmajhmaa", sum := "50e8d5de5c4031901a819026dca9442adaeee9eb39e4943bf540b7bdbead9dfa", func := "usher/usherlaw2.SlabOld", spec := "slabOld", plainKeys := false, apart := false, narrowed := true }
def SlabOldUptoSaid : Prop := slabOldUptoRow.holds Try.pinned (OpenSpec.upto slabOldSpec)

/-- 'usherlaw2.SlabPlays', WHERE WHAT IT READS IS OF BULK AT MOST 1048576: true; the input reads as it did. -/
def slabPlaysUptoRow : OpenClaim := { program := "ytkeffebcmajhmaa", sum := "50e8d5de5c4031901a819026dca9442adaeee9eb39e4943bf540b7bdbead9dfa", func := "usher/usherlaw2.SlabPlays", spec := "slabPlays", plainKeys := false, apart := false, narrowed := true }
def SlabPlaysUptoSaid : Prop := slabPlaysUptoRow.holds Try.pinned (OpenSpec.upto slabPlaysSpec)

/-- 'usherlaw2.SlabOfNothing', WHERE WHAT IT READS IS OF BULK AT MOST 1048576: true; the input reads as it did. -/
def slabOfNothingUptoRow : OpenClaim := { program := "ytkeffebcmajhmaa", sum := "50e8d5de5c4031901a819026dca9442adaeee9eb39e4943bf540b7bdbead9dfa", func := "usher/usherlaw2.SlabOfNothing", spec := "slabOfNothing", plainKeys := false, apart := false, narrowed := true }
def SlabOfNothingUptoSaid : Prop := slabOfNothingUptoRow.holds Try.pinned (OpenSpec.upto slabOfNothingSpec)

/-- 'usherlaw7.NetFails', WHERE WHAT IT READS IS OF BULK AT MOST 1048576: true; the input reads as it did. -/
def netFailsUptoRow : OpenClaim := { program := "ytkeffebcmajhmaa", sum := "50e8d5de5c4031901a819026dca9442adaeee9eb39e4943bf540b7bdbead9dfa", func := "usher/usherlaw7.NetFails", spec := "netFails", plainKeys := false, apart := false, narrowed := true }
def NetFailsUptoSaid : Prop := netFailsUptoRow.holds Try.pinned (OpenSpec.upto netFailsSpec)

/-- 'usherlaw7.NetLine', WHERE WHAT IT READS IS OF BULK AT MOST 1048576: true; the input reads as it did. -/
def netLineUptoRow : OpenClaim := { program := "ytkeffebcmajhmaa", sum := "50e8d5de5c4031901a819026dca9442adaeee9eb39e4943bf540b7bdbead9dfa", func := "usher/usherlaw7.NetLine", spec := "netLine", plainKeys := false, apart := false, narrowed := true }
def NetLineUptoSaid : Prop := netLineUptoRow.holds Try.pinned (OpenSpec.upto netLineSpec)

/-- 'usherlaw7.NetFlows', WHERE WHAT IT READS IS OF BULK AT MOST 1048576: true; the input reads as it did. -/
def netFlowsUptoRow : OpenClaim := { program := "ytkeffebcmajhmaa", sum := "50e8d5de5c4031901a819026dca9442adaeee9eb39e4943bf540b7bdbead9dfa", func := "usher/usherlaw7.NetFlows", spec := "netFlows", plainKeys := false, apart := false, narrowed := true }
def NetFlowsUptoSaid : Prop := netFlowsUptoRow.holds Try.pinned (OpenSpec.upto netFlowsSpec)

/-- 'usherlaw7.NetEnds', WHERE WHAT IT READS IS OF BULK AT MOST 1048576: true; the input reads as it did. -/
def netEndsUptoRow : OpenClaim := { program := "ytkeffebcmajhmaa", sum := "50e8d5de5c4031901a819026dca9442adaeee9eb39e4943bf540b7bdbead9dfa", func := "usher/usherlaw7.NetEnds", spec := "netEnds", plainKeys := false, apart := false, narrowed := true }
def NetEndsUptoSaid : Prop := netEndsUptoRow.holds Try.pinned (OpenSpec.upto netEndsSpec)

/-- 'usherlaw8.PollOfNothing', WHERE WHAT IT READS IS OF BULK AT MOST 1048576: true; the input reads as it did. -/
def pollOfNothingUptoRow : OpenClaim := { program := "ytkeffebcmajhmaa", sum := "50e8d5de5c4031901a819026dca9442adaeee9eb39e4943bf540b7bdbead9dfa", func := "usher/usherlaw8.PollOfNothing", spec := "pollOfNothing", plainKeys := false, apart := false, narrowed := true }
def PollOfNothingUptoSaid : Prop := pollOfNothingUptoRow.holds Try.pinned (OpenSpec.upto pollOfNothingSpec)

/-- 'usherlaw8.PollPicks', WHERE WHAT IT READS IS OF BULK AT MOST 1048576: true; the input reads as it did. -/
def pollPicksUptoRow : OpenClaim := { program := "ytkeffebcmajhmaa", sum := "50e8d5de5c4031901a819026dca9442adaeee9eb39e4943bf540b7bdbead9dfa", func := "usher/usherlaw8.PollPicks", spec := "pollPicks", plainKeys := false, apart := false, narrowed := true }
def PollPicksUptoSaid : Prop := pollPicksUptoRow.holds Try.pinned (OpenSpec.upto pollPicksSpec)

/-- 'usherlaw8.PollEdges', WHERE WHAT IT READS IS OF BULK AT MOST 1048576: true; the input reads as it did. -/
def pollEdgesUptoRow : OpenClaim := { program := "ytkeffebcmajhmaa", sum := "50e8d5de5c4031901a819026dca9442adaeee9eb39e4943bf540b7bdbead9dfa", func := "usher/usherlaw8.PollEdges", spec := "pollEdges", plainKeys := false, apart := false, narrowed := true }
def PollEdgesUptoSaid : Prop := pollEdgesUptoRow.holds Try.pinned (OpenSpec.upto pollEdgesSpec)

/-- 'usherlaw7.NetPlays', WHERE WHAT IT READS IS OF BULK AT MOST 1048576: true; the input reads as it did. -/
def netPlaysUptoRow : OpenClaim := { program := "ytkeffebcmajhmaa", sum := "50e8d5de5c4031901a819026dca9442adaeee9eb39e4943bf540b7bdbead9dfa", func := "usher/usherlaw7.NetPlays", spec := "netPlays", plainKeys := false, apart := false, narrowed := true }
def NetPlaysUptoSaid : Prop := netPlaysUptoRow.holds Try.pinned (OpenSpec.upto netPlaysSpec)

/-- 'usherlaw7.NetOfNothing', WHERE WHAT IT READS IS OF BULK AT MOST 1048576: true; the input reads as it did. -/
def netOfNothingUptoRow : OpenClaim := { program := "ytkeffebcmajhmaa", sum := "50e8d5de5c4031901a819026dca9442adaeee9eb39e4943bf540b7bdbead9dfa", func := "usher/usherlaw7.NetOfNothing", spec := "netOfNothing", plainKeys := false, apart := false, narrowed := true }
def NetOfNothingUptoSaid : Prop := netOfNothingUptoRow.holds Try.pinned (OpenSpec.upto netOfNothingSpec)

/-- 'usherlaw8.PollQuiet', WHERE WHAT IT READS IS OF BULK AT MOST 1048576: true; the input reads as it did. -/
def pollQuietUptoRow : OpenClaim := { program := "ytkeffebcmajhmaa", sum := "50e8d5de5c4031901a819026dca9442adaeee9eb39e4943bf540b7bdbead9dfa", func := "usher/usherlaw8.PollQuiet", spec := "pollQuiet", plainKeys := false, apart := false, narrowed := true }
def PollQuietUptoSaid : Prop := pollQuietUptoRow.holds Try.pinned (OpenSpec.upto pollQuietSpec)

/-- 'usherlaw8.PollPlays', WHERE WHAT IT READS IS OF BULK AT MOST 1048576: true; the input reads as it did. -/
def pollPlaysUptoRow : OpenClaim := { program := "ytkeffebcmajhmaa", sum := "50e8d5de5c4031901a819026dca9442adaeee9eb39e4943bf540b7bdbead9dfa", func := "usher/usherlaw8.PollPlays", spec := "pollPlays", plainKeys := false, apart := false, narrowed := true }
def PollPlaysUptoSaid : Prop := pollPlaysUptoRow.holds Try.pinned (OpenSpec.upto pollPlaysSpec)

end Rows
end Go.Proofs.Ytkeffebcmajhmaa
