/- The poller: what is watched. -/
import Derived.Test.YtkeffebcmajhmaaPoll1
namespace Go.Proofs.Ytkeffebcmajhmaa
open Go.RowKit
set_option linter.unusedVariables false
set_option linter.unusedSimpArgs false
structure Wd where
  id : Int
  rd : Bool
  wr : Bool
  ed : Bool
  tr : Int
  tm : Int
def wcells (d : Wd) : Array Value := #[.int .i64 d.id, .bool d.rd, .bool d.wr, .bool d.ed, .int .i64 d.tr, .int .i64 d.tm]
def pcells (n s m : Nat) : Array Value := #[.pointer (some ⟨n, 0, none⟩), .pointer (some ⟨s, 0, none⟩), .map (some m)]
/-- what is told, and what is remembered of it. -/
def toldD (N : NS) (d : Wd) : Bool × Bool × Wd :=
  if d.ed = true then
    ((readyN N d.id).1 && d.rd && decide (d.tr < (marksN N d.id).1), (readyN N d.id).2 && d.wr && decide (d.tm < (marksN N d.id).2),
      { d with tr := if ((readyN N d.id).1 && d.rd && decide (d.tr < (marksN N d.id).1)) = true then (marksN N d.id).1 else d.tr, tm := if ((readyN N d.id).2 && d.wr && decide (d.tm < (marksN N d.id).2)) = true then (marksN N d.id).2 else d.tm })
  else ((readyN N d.id).1 && d.rd, (readyN N d.id).2 && d.wr, d)
def ToldPost (w : World) (q : Nat) (r : Bool × Bool × Wd) (e : Ending) (w' : World) : Prop := e = .returned (.tuple #[.bool r.1, .bool r.2.1]) ∧ Blk w' q 153 (wcells r.2.2) ∧ Keeps [q] w w'
end Go.Proofs.Ytkeffebcmajhmaa
