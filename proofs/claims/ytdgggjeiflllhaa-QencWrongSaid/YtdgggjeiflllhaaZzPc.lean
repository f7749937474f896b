/- Pc -/
import Derived.Deep.CutBlock
import Derived.BigQuiet
import Derived.Lib.Hide
import Derived.IntWalk
import Derived.Test.YtdgggjeiflllhaaZzUnw
import Derived.Test.YtdgggjeiflllhaaZzRtab
import Derived.Test.YtdgggjeiflllhaaZzMem
import Derived.Test.YtdgggjeiflllhaaZzQt
import Derived.Test.YtdgggjeiflllhaaZzT3
import Derived.StillTailTactics
import Derived.Test.YtdgggjeiflllhaaZzQr
import Derived.Test.YtdgggjeiflllhaaZzIn
import Derived.Test.YtdgggjeiflllhaaZzArr
import Derived.Test.YtdgggjeiflllhaaZzQa
import Derived.Test.YtdgggjeiflllhaaZzEncp

namespace Go.Proofs.Ytdgggjeiflllhaa.M
open Go.ChangeShapes Go.WideShapes Go.ChangeAt Go.RowKit
end Go.Proofs.Ytdgggjeiflllhaa.M
namespace Go.Proofs.Ytdgggjeiflllhaa.M
open Go.ChangeShapes Go.WideShapes Go.ChangeAt Go.RowKit
theorem mask_eq (x m : Nat) (hx : x < 256) (hm : m = 128 ∨ m = 64 ∨ m = 32 ∨ m = 16) : (bits .and .u8 (x : Int) (m : Int) == 0) = decide (x / m % 2 = 0) := by
  have k1 : ∀ x : Fin 256, (bits .and .u8 (x.val : Int) 128 == 0) = decide (x.val / 128 % 2 = 0) := by decide +kernel
  have k2 : ∀ x : Fin 256, (bits .and .u8 (x.val : Int) 64 == 0) = decide (x.val / 64 % 2 = 0) := by decide +kernel
  have k3 : ∀ x : Fin 256, (bits .and .u8 (x.val : Int) 32 == 0) = decide (x.val / 32 % 2 = 0) := by decide +kernel
  have k4 : ∀ x : Fin 256, (bits .and .u8 (x.val : Int) 16 == 0) = decide (x.val / 16 % 2 = 0) := by decide +kernel
  rcases hm with rfl | rfl | rfl | rfl
  · exact k1 ⟨x, hx⟩
  · exact k2 ⟨x, hx⟩
  · exact k3 ⟨x, hx⟩
  · exact k4 ⟨x, hx⟩
theorem mask_is {x m : Nat} {b : Bool} (hx : x < 256) (hm : m = 128 ∨ m = 64 ∨ m = 32 ∨ m = 16) (hb : decide (x / m % 2 = 0) = b) : (bits .and .u8 (x : Int) (m : Int) == 0) = b ∧ (bits .and .u8 (x : Int) (m : Int) != 0) = !b := by
  have := mask_eq x m hx hm
  rw [bne, this, hb]
  exact ⟨rfl, rfl⟩
end Go.Proofs.Ytdgggjeiflllhaa.M

