/- The poller: told by contract. -/
import Derived.Test.YtkeffebcmajhmaaPq22
import Derived.Test.YtkeffebcmajhmaaPq23
import Derived.Test.YtkeffebcmajhmaaPq24
namespace Go.Proofs.Ytkeffebcmajhmaa
open Go.RowKit
theorem told_any (pb n s m q : Nat) (F : List Nat) (N : NS) (d : Wd) (w : World) (hp : Blk w pb 93 (pcells n s m)) (hn : NRep pc w n F N) (hq : Blk w q 153 (wcells d)) :
    Calls Try.prog 78 #[.pointer (some ⟨pb, 0, none⟩), .pointer (some ⟨q, 0, none⟩)] w (ToldPost w q (toldD N d)) := by
  cases hed : d.ed with
  | true =>
    cases h1 : (((readyN N d.id).1 && d.rd))
    · exact told_edgeA pb n s m q F N d w hp hn hq hed h1
    · cases h2 : decide (d.tr < (marksN N d.id).1)
      · exact told_edgeC pb n s m q F N d w hp hn hq hed ⟨h1, h2⟩
      · exact told_edgeB pb n s m q F N d w hp hn hq hed ⟨h1, h2⟩
  | false => exact told_plain pb n s m q F N d w hp hn hq hed
end Go.Proofs.Ytkeffebcmajhmaa
