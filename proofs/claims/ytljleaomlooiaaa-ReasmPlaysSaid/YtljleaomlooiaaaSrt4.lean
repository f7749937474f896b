/- SortFunc of pieces, in the documentation's terms. No condition. -/
import Derived.BigQuiet
import Derived.Deep.CutBlock
import Derived.Lib.Hide
import Derived.IntWalk
import Derived.Test.YtljleaomlooiaaaSrt3
import Derived.Test.YtljleaomlooiaaaRat
namespace Go.Proofs.Ytljleaomlooiaaa.M
open Go.ChangeShapes Go.WideShapes Go.ChangeAt Go.RowKit
open Go.Shelf Go.Lib Go.Sort

def pcmp (x y : Pv) : Int := if x.1 < y.1 then -1 else if y.1 < x.1 then 1 else 0
theorem plt (x y : Pv) : ltOf pcmp x y = decide (x.1 < y.1) := by
  unfold ltOf pcmp
  by_cases h1 : x.1 < y.1
  · simp [h1]
  · by_cases h2 : y.1 < x.1 <;> simp [h1, h2]
theorem pswo : SWO (ltOf pcmp) where
  irrefl x := by rw [plt]; simp
  trans x y z h1 h2 := by rw [plt] at *; simp at *; omega
  ntrans x y z h1 h2 := by rw [plt] at *; simp at *; omega

set_option maxRecDepth 100000 in
set_option maxHeartbeats 1000000 in
theorem sort_any (blk off cap : Nat) (d : Array Pv) (w : World) (hH : HoldsK pvc 2 w blk off d) (hblk : blk < w.heap.size) (hsz : d.size < 4611686018427387904) :
    Calls Try.prog 30 #[.slice (some ⟨blk, off, none⟩) d.size cap, .func (.func 31) #[] #[]] w fun e w' =>
      e = .returned (.tuple #[]) ∧ ∃ d' n os, PermIn 0 d.size d d' ∧ SortedIn (ltOf pcmp) 0 d.size d' ∧ w' = sortWorldK pvc 2 w blk off n d' os := by
  have eg : ∀ args w, (callFunc 31 args).run Try.prog w = .ok (.enter 31 args) w := enters_of Try.func31 (by kernel_rfl) rfl
  exact AnyQ.slices_SortFunc sortPc 2 (fun _ => by kernel_rfl) (fun _ => by kernel_rfl) pvc (fun _ => rfl) (fun x v hv => by simp [pvc] at hv; rcases hv with rfl | rfl <;> rfl) pcmp pswo 31 #[] blk off cap d w eg (fun _ _ _ _ x y => closure_any x.1 y.1 _ _ _ ⟨_, _, _, rfl⟩ ⟨_, _, _, rfl⟩) hH hblk hsz
end Go.Proofs.Ytljleaomlooiaaa.M
