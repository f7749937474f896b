/- Pg -/
import Derived.BigQuiet
import Derived.Deep.CutBlock
import Derived.Lib.Hide
import Derived.IntWalk
import Derived.Deep.LoopGhost
import Derived.Test.YtdgggjeiflllhaaZzPc
import Derived.Test.YtdgggjeiflllhaaZzQt
import Derived.Test.YtdgggjeiflllhaaZzArr
import Derived.Test.YtdgggjeiflllhaaZzCap
import Derived.Test.YtdgggjeiflllhaaZzRtab
import Derived.Test.YtdgggjeiflllhaaZzEncp
import Derived.StillTailTactics
import Derived.Test.YtdgggjeiflllhaaZzPa

namespace Go.Proofs.Ytdgggjeiflllhaa.M
open Go.ChangeShapes Go.WideShapes Go.ChangeAt Go.RowKit
def Qd.new (l b : Nat) : Qd := ⟨⟨[], 0, 0⟩, l, b, [], [], [], 0, false⟩
set_option maxRecDepth 100000 in
set_option maxHeartbeats 1000000 in
theorem clamp8_any (n : Int) (h0 : -9223372036854775808 ≤ n) (h1 : n ≤ 9223372036854775807) (w : World) :
    Calls Try.prog 41 #[.int .i64 n] w fun e w' => e = .returned (.int .i64 (lim n : Nat)) ∧ w' = w := by
  have hl : ((lim n : Nat) : Int) = min (max n 0) 4096 := by unfold lim; omega
  have HL := Lib.hid hl
  clear hl
  go_enter Try.func41, Try.ntmps41
  by_cases q0 : n < 0
  · have g0 : ¬ (0 ≤ n) := by omega
    go_wp2
    go_ret
    refine ⟨?_, rfl⟩
    refine ret_int ?_
    rw [HL.out]; omega
  · have g0 : 0 ≤ n := by omega
    by_cases q1 : n ≤ 4096
    · go_wp2
      go_ret
      refine ⟨?_, rfl⟩
      refine ret_int ?_
      rw [HL.out]; omega
    · have g1 : 4096 < n := by omega
      go_wp2
      go_ret
      refine ⟨?_, rfl⟩
      refine ret_int ?_
      rw [HL.out]; omega
end Go.Proofs.Ytdgggjeiflllhaa.M
namespace Go.Proofs.Ytdgggjeiflllhaa.M
open Go.ChangeShapes Go.WideShapes Go.ChangeAt Go.RowKit
end Go.Proofs.Ytdgggjeiflllhaa.M

