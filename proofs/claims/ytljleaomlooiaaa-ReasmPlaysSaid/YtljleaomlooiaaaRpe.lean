/- piece.end: what it returns. Ends below 2^64. -/
import Derived.BigQuiet
import Derived.Deep.CutBlock
import Derived.Lib.Hide
import Derived.IntWalk
import Derived.Test.YtljleaomlooiaaaRbb
import Derived.Test.YtljleaomlooiaaaArr
namespace Go.Proofs.Ytljleaomlooiaaa.M
open Go.ChangeShapes Go.WideShapes Go.ChangeAt Go.RowKit

set_option maxRecDepth 100000 in
set_option maxHeartbeats 1000000 in
theorem end_any (o n : Nat) (A : Option Addr) (c : Nat) (w : World) (h : o + n < 18446744073709551616) (hn : n < 9223372036854775808) :
    Calls Try.prog 28 #[.agg #[.int .u64 o, .slice A n c]] w fun e w' => e = .returned (.int .u64 (o + n : Nat)) ∧ Frm (New w) w w' := by
  have hF5 : Frm (New w) w (w.alloc (.cells #[.int .u64 o, .slice A n c] 56)) := (Frm.refl _ w).alloc Up.new _
  have hw : (((o : Int) + (n : Int)) % 18446744073709551616) = ((o + n : Nat) : Int) := by omega
  go_enter Try.func28, Try.ntmps28
  go_upto_region 1 with (fail)
  go_wp2
  go_ret
  exact ⟨rfl, hF5⟩
end Go.Proofs.Ytljleaomlooiaaa.M
