/- Lev -/
import Derived.Test.YtdgggjeiflllhaaZzDecp
import Derived.Deep.CutBlock
import Derived.Deep.RegionHeld3
import Derived.Test.YtdgggjeiflllhaaZzMem
import Derived.Test.YtdgggjeiflllhaaZzUnw

namespace Go.Proofs.Ytdgggjeiflllhaa.M
open Go.ChangeShapes Go.WideShapes Go.ChangeAt Go.RowKit
end Go.Proofs.Ytdgggjeiflllhaa.M
namespace Go.Proofs.Ytdgggjeiflllhaa.M
open Go.ChangeShapes Go.WideShapes Go.ChangeAt Go.RowKit
end Go.Proofs.Ytdgggjeiflllhaa.M
namespace Go.Proofs.Ytdgggjeiflllhaa.M
open Go.ChangeShapes Go.WideShapes Go.ChangeAt Go.RowKit
end Go.Proofs.Ytdgggjeiflllhaa.M
namespace Go.Proofs.Ytdgggjeiflllhaa.M
open Go.ChangeShapes Go.WideShapes Go.ChangeAt Go.RowKit
theorem nrdp_any (b : Bytes) (A : Option Addr) (c k : Nat) (w : World) (hR : Rd w A (bvs b)) (hl : b.length ≤ 140737488355328) (k0 : 1 ≤ k) (k1 : k ≤ 8) :
    Calls Try.prog 91 #[.slice A b.length c, .int .i64 k] w (Ret3 w (rdp b k)) := by
  cases b with
  | nil => exact rdp_nil A c k w
  | cons x r =>
    obtain ⟨g, off, rfl, _⟩ := hR.at_ (k := 0) (by simp)
    exact rdp_cons x r g off c k w hR hl k0 k1
end Go.Proofs.Ytdgggjeiflllhaa.M

