/- Feq -/
import Derived.Deep.RegionWith
import Derived.ChangeSame
import Derived.SizedLaws
import Derived.Test.YtdgggjeiflllhaaZzEncp
import Derived.Test.YtdgggjeiflllhaaZzIn

namespace Go.Proofs.Ytdgggjeiflllhaa.M
open Go.ChangeShapes Go.WideShapes Go.ChangeAt Go.RowKit
def strOf : Value → Bytes
  | .string s => s.data.toList
  | _ => []
theorem str_strOf (s : ByteArray) : str (strOf (.string s)) = .string s := by
  show Value.string ⟨s.data.toList.toArray⟩ = _
  rw [Array.toArray_toList]
end Go.Proofs.Ytdgggjeiflllhaa.M

