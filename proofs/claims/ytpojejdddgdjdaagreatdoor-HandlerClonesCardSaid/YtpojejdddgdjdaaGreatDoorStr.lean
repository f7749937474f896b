/- Strings out of bytes, strings compared. No condition. -/
import Derived.Test.YtpojejdddgdjdaaGreatDoorRbb
import Derived.Test.YtpojejdddgdjdaaGreatDoorArr
import Derived.Laws.IdiomStrings
import Derived.Lib.SlBytesConst
namespace Go.Proofs.YtpojejdddgdjdaaGreatDoor.M
open Go.ChangeShapes Go.WideShapes Go.ChangeAt Go.RowKit

def str (l : Bytes) : Value := .string ⟨l.toArray⟩
theorem mk_toList (a : Bytes) : (⟨a.toArray⟩ : ByteArray).toList = a := by rw [ByteArray.toList_eq]
theorem str_beq (a b : Bytes) : ((⟨a.toArray⟩ : ByteArray) == ⟨b.toArray⟩) = decide (a = b) := by
  rw [beq_toListBytes, mk_toList, mk_toList]
  by_cases h : a = b <;> simp [h]
theorem run_conv {w : World} {A : Option Addr} {l : Bytes} {c : Nat} (h : Rd w A (bvs l)) : (convert 28 9 (.slice A l.length c)).run Tryz.prog w = .ok (str l) w := by
  cases A with
  | none =>
    have hl : l = [] := by
      cases l with
      | nil => rfl
      | cons x r => obtain ⟨g, off, e, _⟩ := h 0 _ rfl; cases e
    subst hl
    have h1 := run_convert_bytes_string (P := Tryz.prog) w 28 9 5 none 0 c Tryz.underlying28 Tryz.underlying5 Tryz.underlying9
    rw [show ([] : Bytes).length = 0 from rfl, h1]
    simp [Conv.bytesToString]
    rfl
  | some a =>
    refine run_convert_bytes_back w _ _ _ a c l Tryz.underlying28 Tryz.underlying5 Tryz.underlying9 (fun j hj => ?_)
    exact rd_addr h j _ (by simp [bvs, bv, List.getElem?_eq_getElem hj])

section
variable {ops : Array Oper} {rest : List Oper} {o : Oper} {a : Act} {Q : Exit → Act → World → Prop} {w : World}
/-- string(b) -/
theorem wpList_conv (hgd : o.guard = none) {x : Operand} (ho : o.op = .convert 28 9 x) {A : Option Addr} {l : Bytes} {c : Nat} (hx : a.eval x = .slice A l.length c) (hR : Rd w A (bvs l))
    (h : wpList Tryz.prog ops Q rest (a.put o.dst (str l)) w) : wpList Tryz.prog ops Q (o :: rest) a w := by
  refine wpList_val hgd (str l) ?_ h
  unfold execOp
  rw [ho]
  simp only [hx, Sem.run_bind, run_conv hR, Result.andThen_ok, Sem.run_pure]
end
/-- a literal's cells, marked or not -/
theorem Rd.lit (w : World) (b : Bytes) (cs : Array Value) (t : TypeId) (fr : Nat × Nat) (h : cs.toList = bvs b) : Rd (w.alloc (.cells cs t fr)) (some ⟨w.heap.size, 0, none⟩) (bvs b) := fun j u hu => ⟨_, _, rfl, by
  have hh : (w.alloc (.cells cs t fr)).heap[w.heap.size]? = some (.cells cs t fr) := heap_alloc_new w _
  rw [cell_of_row _ _ _ cs t fr hh, Nat.zero_add]
  rw [← h] at hu
  simpa using hu⟩
/-- []byte("abc"): the literal's row is marked -/
theorem run_lit (w : World) (C : Array Value) (n c : Nat) : (convert 28 28 (.slice (some ⟨w.heap.size, 0, none⟩) n c)).run Tryz.prog (w.alloc (.cells C 5)) = .ok (.slice (some ⟨w.heap.size, 0, none⟩) n c) (w.alloc (.cells C 5 (C.size, C.size + 1))) :=
  Lib.run_convert_bytes_const w 28 5 C n c Tryz.underlying28 Tryz.underlying5
end Go.Proofs.YtpojejdddgdjdaaGreatDoor.M
