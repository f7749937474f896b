/- field.sign, Name, Value, Pseudo and the document's: what they return. No condition but sizes. -/
import Derived.BigQuiet
import Derived.Deep.CutBlock
import Derived.Lib.Hide
import Derived.IntWalk
import Derived.Test.YtpojejdddgdjdaaGreatDoorSh
namespace Go.Proofs.YtpojejdddgdjdaaGreatDoor.M
open Go.ChangeShapes Go.WideShapes Go.ChangeAt Go.RowKit

def more : Bytes := [33, 35, 36, 37, 38, 39, 42, 43, 45, 46, 94, 95, 96, 124, 126]
def sgn (c : UInt8) : Bool := decide (97 ≤ c.toNat ∧ c.toNat ≤ 122) || decide (48 ≤ c.toNat ∧ c.toNat ≤ 57) || more.contains c
theorem index_more (c : UInt8) : decide (0 ≤ Lib.indexByte more c) = more.contains c := by
  have h : ∀ n : Fin 256, decide (0 ≤ Lib.indexByte more (UInt8.ofNat n.val)) = more.contains (UInt8.ofNat n.val) := by decide +kernel
  have := h ⟨c.toNat, c.toNat_lt⟩
  simpa using this
/-- a name may be so -/
def nameOk (s : Bytes) : Bool := s.all sgn && !s.isEmpty
theorem all_step (p : UInt8 → Bool) (s : Bytes) (k : Nat) (hk : k < s.length) (h : (s.take k).all p = true) (h2 : p s[k] = true) : (s.take (k + 1)).all p = true := by
  rw [List.take_succ_eq_append_getElem hk, List.all_append, h]
  simp [h2]
theorem all_no (p : UInt8 → Bool) (s : Bytes) (k : Nat) (hk : k < s.length) (h2 : p s[k] = false) : s.all p = false := by
  rw [Bool.eq_false_iff]
  intro h
  rw [List.all_eq_true] at h
  have := h _ (List.getElem_mem hk)
  rw [h2] at this
  cases this
end Go.Proofs.YtpojejdddgdjdaaGreatDoor.M
