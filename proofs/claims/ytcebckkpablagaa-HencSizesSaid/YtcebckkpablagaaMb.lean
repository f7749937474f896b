/- What a round of a loop that appends may write. No condition. -/
import Derived.Test.YtcebckkpablagaaRence
namespace Go.Proofs.Ytcebckkpablagaa.M
open Go.ChangeShapes Go.WideShapes Go.ChangeAt Go.RowKit

/-- what a round may write but for the table -/
def Mb (A : Option Addr) (w : World) (k : Nat) : Prop := blk A = some k ∨ w.heap.size ≤ k
theorem Mb.up (A : Option Addr) (w : World) : Up (Mb A w) w := fun _ h => .inr h

theorem bvs_lt {M : Nat → Prop} {w : World} {e n c : Nat} {A : Option Addr} {l : Bytes} (h : App M w e 1 A n c (bvs l)) (hl : 0 < l.length) : ∀ k, blk A = some k → k < w.heap.size := fun k hk => by
  obtain ⟨g, off, rfl, hg⟩ := h.rd.lt (by intro c; have := congrArg List.length c; rw [bvs_length] at this; simp at this; subst this; simp at hl)
  cases hk; exact hg


end Go.Proofs.Ytcebckkpablagaa.M
