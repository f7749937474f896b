/- Bytes as cells. No condition. -/
import Derived.Test.YtpojejdddgdjdaaGreatDoorRows
import Derived.Test.YtpojejdddgdjdaaGreatDoorMem
namespace Go.Proofs.YtpojejdddgdjdaaGreatDoor.M
open Go.ChangeShapes Go.WideShapes Go.ChangeAt Go.RowKit

abbrev Bytes := List UInt8
/-- bytes as cells -/
def bv (b : UInt8) : Value := .int .u8 (b.toNat : Int)
def bvs (l : List UInt8) : List Value := l.map bv
@[simp] theorem bvs_length (l : List UInt8) : (bvs l).length = l.length := by simp [bvs]
@[simp] theorem bvs_nil : bvs [] = [] := rfl
theorem bvs_append (l k : List UInt8) : bvs (l ++ k) = bvs l ++ bvs k := by simp [bvs]
theorem bvs_one (l : List UInt8) : ∀ u ∈ bvs l, u.oneCell' = true := fun u hu => by
  obtain ⟨b, _, rfl⟩ := List.mem_map.1 hu
  rfl
theorem bv_of (n : Int) (h0 : 0 ≤ n) (h1 : n ≤ 255) : Value.int .u8 n = bv (UInt8.ofNat n.toNat) := by
  obtain ⟨m, rfl⟩ := Int.eq_ofNat_of_zero_le h0
  simp only [bv, Int.toNat_natCast, UInt8.toNat_ofNat']
  rw [Nat.mod_eq_of_lt (by omega)]
theorem u8s : Elem Tryz.prog 28 5 1 1 :=
  ⟨by kernel_rfl, by
    have h : (Tryz.prog.info? 5).map (fun i => (i.zero, i.size, i.bytes)) = some (some (.int .u8 0), 1, 1) := by kernel_rfl
    obtain ⟨i, hi, hz, hs, hb⟩ := info_parts h
    exact ⟨i, _, hi, hz, hs, hb, rfl⟩, by omega, by omega⟩
end Go.Proofs.YtpojejdddgdjdaaGreatDoor.M
