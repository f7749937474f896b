/- Strings of arguments: their reach. No condition. -/
import Derived.Test.YtpojejdddgdjdaaGreatDoorSar
namespace Go.Proofs.YtpojejdddgdjdaaGreatDoor.M
open Go.ChangeShapes Go.WideShapes Go.ChangeAt Go.RowKit

theorem strz {H : Type} {P : Program} {T : TypeId} {s : ByteArray} (hw : ∀ n ∈ (DataW.lit (.string s.data.toList) : DataW H).weights P T, n ≤ reachBytes) : s.size ≤ 1125899906842624 := by
  have h9 : s.data.toList.length ≤ reachBytes := hw _ (by simp [DataW.weights])
  have e : s.data.toList.length = s.size := by rw [Array.length_toList]; rfl
  rw [e] at h9
  exact Nat.le_trans h9 (by decide)
end Go.Proofs.YtpojejdddgdjdaaGreatDoor.M
