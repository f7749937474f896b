/- Pa -/
import Derived.BigQuiet
import Derived.Deep.CutBlock
import Derived.Lib.Hide
import Derived.IntWalk
import Derived.StillTailTactics
import Derived.Test.YtdgggjeiflllhaaZzQr
import Derived.Test.YtdgggjeiflllhaaZzIn
import Derived.Test.YtdgggjeiflllhaaZzArr
import Derived.Test.YtdgggjeiflllhaaZzQa
import Derived.Test.YtdgggjeiflllhaaZzRtab
import Derived.Test.YtdgggjeiflllhaaZzQt
import Derived.Test.YtdgggjeiflllhaaZzNp
import Derived.Test.YtdgggjeiflllhaaZzDecp
import Derived.Test.YtdgggjeiflllhaaZzEncp
import Derived.Test.YtdgggjeiflllhaaZzNj
import Derived.Test.YtdgggjeiflllhaaZzNo

namespace Go.Proofs.Ytdgggjeiflllhaa.M
open Go.ChangeShapes Go.WideShapes Go.ChangeAt Go.RowKit
end Go.Proofs.Ytdgggjeiflllhaa.M
namespace Go.Proofs.Ytdgggjeiflllhaa.M
open Go.ChangeShapes Go.WideShapes Go.ChangeAt Go.RowKit
section
variable {E : Qn} {W : Wq} {lim : Nat} {T0 : Tb} {l : List Fld}
end
def Qn.far (E : Qn) : Tb := if E.begun = true then E.t else ⟨[], 0, 0⟩
end Go.Proofs.Ytdgggjeiflllhaa.M

