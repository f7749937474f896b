/- Qkt -/
import Derived.Test.YtdgggjeiflllhaaZzMem
import Derived.Test.YtdgggjeiflllhaaZzArr
import Derived.Test.YtdgggjeiflllhaaZzIn
import Derived.Test.YtdgggjeiflllhaaZzTab

namespace Go.Proofs.Ytdgggjeiflllhaa.M
open Go.ChangeShapes Go.WideShapes Go.ChangeAt Go.RowKit
structure QKept (w : World) (X : Nat → Prop) (A : Option Addr) (xs : List Value) : Prop where
  rd : Rd w A xs
  far : ∀ k, M.blk A = some k → ¬ X k ∧ k < w.heap.size
section
variable {w w' : World} {X X' : Nat → Prop} {A : Option Addr} {xs : List Value}
theorem QKept.keep (h : QKept w X A xs) (f : Frm (Own X w) w w') (hs : ∀ k, X' k → Own X w k) : QKept w' X' A xs := by
  refine ⟨h.rd.keep f (fun k hk q => ?_), fun k hk => ⟨fun q => ?_, Nat.lt_of_lt_of_le (h.far k hk).2 f.size⟩⟩
  · have h1 := h.far k hk
    rcases q with q | q
    · exact h1.1 q
    · omega
  · have h1 := h.far k hk
    rcases hs k q with q | q
    · exact h1.1 q
    · omega
theorem QKept.fresh (h : QKept w X A xs) (f : Frm (New w) w w') : QKept w' X A xs := ⟨h.rd.fresh f, fun k hk => ⟨(h.far k hk).1, Nat.lt_of_lt_of_le (h.far k hk).2 f.size⟩⟩
end
end Go.Proofs.Ytdgggjeiflllhaa.M

