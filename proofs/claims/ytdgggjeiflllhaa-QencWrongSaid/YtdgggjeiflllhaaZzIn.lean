/- In -/
import Derived.Test.YtdgggjeiflllhaaZzKey
import Derived.Laws.IdiomStrings
import Derived.ChangeSlices
import Derived.Test.YtdgggjeiflllhaaZzRnum

namespace Go.Proofs.Ytdgggjeiflllhaa.M
open Go.ChangeShapes Go.WideShapes Go.ChangeAt Go.RowKit
theorem run_conv {w : World} {A : Option Addr} {l : Bytes} {c : Nat} (h : Rd w A (bvs l)) : (convert 23 9 (.slice A l.length c)).run Try.prog w = .ok (str l) w := by
  cases A with
  | none =>
    have hl : l = [] := by
      cases l with
      | nil => rfl
      | cons x r => obtain ⟨g, off, e, _⟩ := h 0 _ rfl; cases e
    subst hl
    have h1 := run_convert_bytes_string (P := Try.prog) w 23 9 5 none 0 c Try.underlying23 Try.underlying5 Try.underlying9
    rw [show ([] : Bytes).length = 0 from rfl, h1]
    simp [Conv.bytesToString]
    rfl
  | some a =>
    refine run_convert_bytes_back w _ _ _ a c l Try.underlying23 Try.underlying5 Try.underlying9 (fun j hj => ?_)
    exact rd_addr h j _ (by simp [bvs, bv, List.getElem?_eq_getElem hj])
section
variable {ops : Array Oper} {rest : List Oper} {o : Oper} {a : Act} {Q : Exit → Act → World → Prop} {w : World}
end
end Go.Proofs.Ytdgggjeiflllhaa.M
namespace Go.Proofs.Ytdgggjeiflllhaa.M
open Go.ChangeShapes Go.WideShapes Go.ChangeAt Go.RowKit
end Go.Proofs.Ytdgggjeiflllhaa.M
namespace Go.Proofs.Ytdgggjeiflllhaa.M
open Go.ChangeShapes Go.WideShapes Go.ChangeAt Go.RowKit
theorem App.in_ {M M' : Nat → Prop} {w : World} {e size n c : Nat} {A : Option Addr} {xs : List Value} (h : App M w e size A n c xs) (hM : ∀ k, blk A = some k → M' k) : App M' w e size A n c xs :=
  { h with
    inM := hM
    own := fun hn => by
      obtain ⟨g, off, cur, a, b, d, _⟩ := h.own hn
      exact ⟨g, off, cur, a, b, d, hM g (by rw [a]; rfl)⟩ }
section
variable {P : Program} {M : Nat → Prop} {t e : TypeId} {size bytes : Nat}
variable {ops : Array Oper} {rest : List Oper} {o : Oper} {a : Act} {Q : Exit → Act → World → Prop} {w : World}
end
end Go.Proofs.Ytdgggjeiflllhaa.M

