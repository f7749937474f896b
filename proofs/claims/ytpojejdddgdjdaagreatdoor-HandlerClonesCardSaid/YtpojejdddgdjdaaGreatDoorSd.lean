/- sem.hop, bare, length and the document's length. No condition but sizes. -/
import Derived.BigQuiet
import Derived.Deep.CutBlock
import Derived.Lib.Hide
import Derived.IntWalk
import Derived.Test.YtpojejdddgdjdaaGreatDoorSc
namespace Go.Proofs.YtpojejdddgdjdaaGreatDoor.M
open Go.ChangeShapes Go.WideShapes Go.ChangeAt Go.RowKit

def bConn : Bytes := [99, 111, 110, 110, 101, 99, 116, 105, 111, 110]
def bKeep : Bytes := [107, 101, 101, 112, 45, 97, 108, 105, 118, 101]
def bProxy : Bytes := [112, 114, 111, 120, 121, 45, 99, 111, 110, 110, 101, 99, 116, 105, 111, 110]
def bTrans : Bytes := [116, 114, 97, 110, 115, 102, 101, 114, 45, 101, 110, 99, 111, 100, 105, 110, 103]
def bUp : Bytes := [117, 112, 103, 114, 97, 100, 101]
def bTe : Bytes := [116, 101]
def bTrailers : Bytes := [116, 114, 97, 105, 108, 101, 114, 115]
def bCL : Bytes := [99, 111, 110, 116, 101, 110, 116, 45, 108, 101, 110, 103, 116, 104]
def hop (s : Bytes) : Bool := decide (s = bConn) || (decide (s = bKeep) || (decide (s = bProxy) || (decide (s = bTrans) || decide (s = bUp))))
/-- a text that tells a body's length -/
def isLen (s : Bytes) (n : Int) : Bool := !s.isEmpty && (decide (s.length ≤ 9) && (s.all dig && decide ((numF 0 s : Int) = n)))
end Go.Proofs.YtpojejdddgdjdaaGreatDoor.M
