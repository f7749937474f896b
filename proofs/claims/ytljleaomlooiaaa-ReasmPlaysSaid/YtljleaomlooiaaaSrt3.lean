/- the closure that SortFunc calls. No condition. -/
import Derived.BigQuiet
import Derived.Deep.CutBlock
import Derived.Lib.Hide
import Derived.IntWalk
import Derived.Test.YtljleaomlooiaaaSrt
import Derived.Test.YtljleaomlooiaaaSrt2
namespace Go.Proofs.Ytljleaomlooiaaa.M
open Go.ChangeShapes Go.WideShapes Go.ChangeAt Go.RowKit
open Go.Shelf Go.Lib Go.Sort

/-- a piece's two cells -/
def encP (x : Nat × Value) : List Value := [.int .u64 x.1, x.2]
set_option maxRecDepth 100000 in
set_option maxHeartbeats 1000000 in
theorem closure_any (x y : Nat) (a b : Value) (w : World) (h1 : ∃ A n c, a = .slice A n c) (h2 : ∃ A n c, b = .slice A n c) :
    Calls Try.prog 31 #[.agg #[.int .u64 x, a], .agg #[.int .u64 y, b]] w fun e w' => e = .returned (.int .i64 (if x < y then -1 else if y < x then 1 else 0)) ∧ ∃ q os', w' = grow (w.drewN q) os' := by
  obtain ⟨A1, n1, c1, rfl⟩ := h1
  obtain ⟨A2, n2, c2, rfl⟩ := h2
  have hcon := fun W' => cmpu_any x y W'
  generalize (if x < y then (-1 : Int) else if y < x then 1 else 0) = r at hcon ⊢
  go_enter Try.func31, Try.ntmps31
  go_wp2_with (go_at_call 32; refine (hcon _).mono ?_; rintro e w' ⟨rfl, rfl⟩)
  go_ret
  exact ⟨rfl, 0, _, by rw [alloc_eq_grow, alloc_eq_grow, grow_grow]; rfl⟩
end Go.Proofs.Ytljleaomlooiaaa.M
