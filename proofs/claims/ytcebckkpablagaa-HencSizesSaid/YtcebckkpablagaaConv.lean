/- string(b), b a slice of bytes. No condition. -/
import Derived.Test.YtcebckkpablagaaKey
import Derived.Laws.IdiomStrings
namespace Go.Proofs.Ytcebckkpablagaa.M
open Go.ChangeShapes Go.WideShapes Go.ChangeAt Go.RowKit

theorem run_conv {w : World} {A : Option Addr} {l : Bytes} {c : Nat} (h : Rd w A (bvs l)) : (convert 22 9 (.slice A l.length c)).run Try.prog w = .ok (str l) w := by
  cases A with
  | none =>
    have hl : l = [] := by
      cases l with
      | nil => rfl
      | cons x r => obtain ⟨g, off, e, _⟩ := h 0 _ rfl; cases e
    subst hl
    have h1 := run_convert_bytes_string (P := Try.prog) w 22 9 5 none 0 c Try.underlying22 Try.underlying5 Try.underlying9
    rw [show ([] : Bytes).length = 0 from rfl, h1]
    simp [Conv.bytesToString]
    rfl
  | some a =>
    refine run_convert_bytes_back w _ _ _ a c l Try.underlying22 Try.underlying5 Try.underlying9 (fun j hj => ?_)
    exact rd_addr h j _ (by simp [bvs, bv, List.getElem?_eq_getElem hj])

section
variable {ops : Array Oper} {rest : List Oper} {o : Oper} {a : Act} {Q : Exit → Act → World → Prop} {w : World}
/-- string(b) -/
theorem wpList_conv (hgd : o.guard = none) {x : Operand} (ho : o.op = .convert 22 9 x) {A : Option Addr} {l : Bytes} {c : Nat} (hx : a.eval x = .slice A l.length c) (hR : Rd w A (bvs l))
    (h : wpList Try.prog ops Q rest (a.put o.dst (str l)) w) : wpList Try.prog ops Q (o :: rest) a w := by
  refine wpList_val hgd (str l) ?_ h
  unfold execOp
  rw [ho]
  simp only [hx, Sem.run_bind, run_conv hR, Result.andThen_ok, Sem.run_pure]
end
end Go.Proofs.Ytcebckkpablagaa.M
