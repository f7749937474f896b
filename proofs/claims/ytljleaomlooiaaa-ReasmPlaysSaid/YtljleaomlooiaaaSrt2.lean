/- cmp.Compare of uint64: what it returns. No condition. -/
import Derived.BigQuiet
import Derived.Deep.CutBlock
import Derived.Lib.Hide
import Derived.IntWalk
import Derived.Test.YtljleaomlooiaaaRbb
import Derived.Test.YtljleaomlooiaaaArr
namespace Go.Proofs.Ytljleaomlooiaaa.M
open Go.ChangeShapes Go.WideShapes Go.ChangeAt Go.RowKit

theorem nan_any (x : Nat) (w : World) : Calls Try.prog 35 #[.int .u64 x] w fun e w' => e = .returned (.bool false) ∧ w' = w := by
  go_enter Try.func35, Try.ntmps35
  go_upto_region 1 with (fail)
  go_wp2
  go_ret
  exact ⟨rfl, rfl⟩
set_option maxRecDepth 100000 in
set_option maxHeartbeats 1000000 in
theorem cmpu_any (x y : Nat) (w : World) :
    Calls Try.prog 32 #[.int .u64 x, .int .u64 y] w fun e w' => e = .returned (.int .i64 (if x < y then -1 else if y < x then 1 else 0)) ∧ w' = w := by
  have HX := Lib.hid (nan_any x w)
  have HY := Lib.hid (nan_any y w)
  by_cases h1 : x < y
  · have h2 : (x : Int) < y := by omega
    rw [if_pos h1]
    go_enter Try.func32, Try.ntmps32
    go_upto_region 10 with (first | (go_at_call 35; refine HX.out.mono ?_; rintro e w1 ⟨rfl, rfl⟩) | (go_at_call 35; refine HY.out.mono ?_; rintro e w1 ⟨rfl, rfl⟩))
    go_wp2
    go_ret
    exact ⟨rfl, rfl⟩
  · have h2 : ¬ (x : Int) < y := by omega
    rw [if_neg h1]
    by_cases h3 : y < x
    · have h4 : (y : Int) < x := by omega
      rw [if_pos h3]
      go_enter Try.func32, Try.ntmps32
      go_upto_region 12 with (first | (go_at_call 35; refine HX.out.mono ?_; rintro e w1 ⟨rfl, rfl⟩) | (go_at_call 35; refine HY.out.mono ?_; rintro e w1 ⟨rfl, rfl⟩))
      go_wp2
      go_ret
      exact ⟨rfl, rfl⟩
    · have h4 : ¬ (y : Int) < x := by omega
      rw [if_neg h3]
      go_enter Try.func32, Try.ntmps32
      go_upto_region 13 with (first | (go_at_call 35; refine HX.out.mono ?_; rintro e w1 ⟨rfl, rfl⟩) | (go_at_call 35; refine HY.out.mono ?_; rintro e w1 ⟨rfl, rfl⟩))
      go_wp2
      go_ret
      exact ⟨rfl, rfl⟩
end Go.Proofs.Ytljleaomlooiaaa.M
