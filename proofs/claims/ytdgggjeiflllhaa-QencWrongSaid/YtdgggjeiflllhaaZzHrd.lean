/- Hrd -/
import Derived.Deep.CutBlock
import Derived.StillTailTactics
import Derived.Deep.RegionHeld3
import Derived.Test.YtdgggjeiflllhaaZzLev
import Derived.Test.YtdgggjeiflllhaaZzEncp
import Derived.Test.YtdgggjeiflllhaaZzIn
import Derived.Test.YtdgggjeiflllhaaZzTab
import Derived.Test.YtdgggjeiflllhaaZzKey

namespace Go.Proofs.Ytdgggjeiflllhaa.M
open Go.ChangeShapes Go.WideShapes Go.ChangeAt Go.RowKit
section
variable {w wr w' : World} {S S' : Nat → Prop} {pd g pr up c co : Nat} {D : De} {T : Tb} {mu : Bool} {out : List Fld} {r : Bytes} {A Ao : Option Addr}
end
end Go.Proofs.Ytdgggjeiflllhaa.M
namespace Go.Proofs.Ytdgggjeiflllhaa.M
open Go.ChangeShapes Go.WideShapes Go.ChangeAt Go.RowKit
def entV (o : Option Fld) : Fld × Bool := match o with | some f => (f, true) | none => (([], []), false)
end Go.Proofs.Ytdgggjeiflllhaa.M

