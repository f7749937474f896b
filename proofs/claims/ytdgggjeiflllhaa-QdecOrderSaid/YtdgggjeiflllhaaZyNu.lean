/- Nu -/
import Derived.BigQuiet
import Derived.Test.YtdgggjeiflllhaaZyNo
import Derived.Test.YtdgggjeiflllhaaZyIn
import Derived.Test.YtdgggjeiflllhaaZyGin
import Derived.Test.YtdgggjeiflllhaaZyLight
import Derived.IntWalk
import Derived.Deep.CutBlock
import Derived.Deep.LoopGhost
import Derived.Below

namespace Go.Proofs.Ytdgggjeiflllhaa.M
open Go.ChangeShapes Go.WideShapes Go.ChangeAt Go.RowKit
section
variable {w0 w w' : World} {X X' : Nat → Prop} {pe g bm : Nat} {E E2 : Qn} {A : Option Addr} {xs : List Value}
end
end Go.Proofs.Ytdgggjeiflllhaa.M
namespace Go.Proofs.Ytdgggjeiflllhaa.M
open Go.ChangeShapes Go.WideShapes Go.ChangeAt Go.RowKit
end Go.Proofs.Ytdgggjeiflllhaa.M
namespace Go.Proofs.Ytdgggjeiflllhaa.M
open Go.ChangeShapes Go.WideShapes Go.ChangeAt Go.RowKit
instance : Inhabited Fld := ⟨([], [])⟩
def fcells (f : Fld) : List Value := [str f.1, str f.2]
theorem fcells_fvs (l : List Fld) : l.flatMap fcells = fvs l := rfl
def FldOk (f : Fld) : Prop := f.1.length ≤ 1125899906842624 ∧ f.2.length ≤ 1125899906842624
section
variable {W : World} {H : Type} {en : TypeId × Value → H} {base : Nat} {spare : Nat → Bool} {held : Bool}
set_option maxRecDepth 100000 in
theorem fld_trod (fuel : Nat) (cs : List Value) (y : DataW H × List MemPlace) (h : DataW.trod en Try.prog W base spare held fuel 71 cs = some y) (hw : ∀ q ∈ y.1.weights Try.prog 71, q ≤ reachBytes) :
    ∃ f : Fld, cs = fcells f ∧ FldOk f := by
  obtain ⟨xs, n, _, hy, hl, hlen, hf⟩ := DataW.trod_struct Try.underlying71 h
  have h5 : Try.prog.cellsOf 71 = 2 := by kernel_rfl
  have c3 : Try.prog.cellsOf 9 = 1 := by kernel_rfl
  rw [h5] at hl
  obtain ⟨a0, a1, rfl⟩ := list2 hl
  obtain ⟨y0, y1, rfl⟩ := list2 hlen
  have h0 : DataW.trod en Try.prog W base spare held n 9 (List.take (Try.prog.cellsOf 9) (List.drop 0 [a0, a1])) = some y0 := hf 0 _ rfl
  rw [c3] at h0
  have h1 : DataW.trod en Try.prog W base spare held n 9 (List.take (Try.prog.cellsOf 9) (List.drop 1 [a0, a1])) = some y1 := hf 1 _ rfl
  rw [c3] at h1
  obtain ⟨s, e0, d0, _⟩ := DataW.trod_string Try.underlying9 h0
  obtain ⟨t, e1, d1, _⟩ := DataW.trod_string Try.underlying9 h1
  simp only [List.drop_zero, List.drop_succ_cons, List.take_succ_cons, List.take_zero, List.cons.injEq, and_true] at e0 e1
  subst e0 e1
  rw [hy] at hw
  simp only [List.map_cons, List.map_nil, d0, d1, DataW.weights, Try.underlying71] at hw
  have hrb : reachBytes ≤ 1125899906842624 := by decide
  refine ⟨(strOf (.string s), strOf (.string t)), ?_, ?_, ?_⟩
  · simp only [fcells, str_strOf]
  · exact Nat.le_trans (hw _ (by simp [DataW.weightsEach, DataW.weights, strOf])) hrb
  · exact Nat.le_trans (hw _ (by simp [DataW.weightsEach, DataW.weights, strOf])) hrb
theorem lists_trod {fuel : Nat} {v : Value} {x : DataW H × List MemPlace} (h : DataW.trod en Try.prog W base spare held fuel 22 [v] = some x) (hw : ∀ q ∈ x.1.weights Try.prog 22, q ≤ reachBytes) :
    ∃ (A : Option Addr) (n c : Nat) (l : List (Sl Fld)), v = .slice A n c ∧ AIn W Sl.cells (fun s => AIn W fcells FldOk s.A s.l.length s.c s.l) A n c l :=
  slices_trod Try.underlying22 Try.underlying30 (k := 2) (by kernel_rfl) (by omega) fcells (fun _ => rfl) FldOk fld_trod (by kernel_rfl) h hw
end
theorem sl_get2 {α : Type} {w : World} {A : Option Addr} {l : List (Sl α)} (h : Rd w A (l.flatMap Sl.cells)) (k : Nat) (hk : k < l.length) : ∃ g off, A = some ⟨g, off, none⟩ ∧ w.cell? ⟨g, off + k, none⟩ = some (.slice l[k].A l[k].l.length l[k].c) := by
  have h1 := flatL_get Sl.cells 1 (fun _ => rfl) l k 0 hk (by omega)
  rw [Nat.mul_one, Nat.add_zero] at h1
  exact h k _ h1
end Go.Proofs.Ytdgggjeiflllhaa.M
namespace Go.Proofs.Ytdgggjeiflllhaa.M
open Go.ChangeShapes Go.WideShapes Go.ChangeAt Go.RowKit
theorem lsum_in {l : List Fld} {f : Fld} (h : f ∈ l) : f.1.length + f.2.length ≤ lsum l := by
  induction l with
  | nil => cases h
  | cons g r ih =>
    have e : lsum (g :: r) = (g.1.length + g.2.length) + lsum r := by simp [lsum]
    rw [e]
    rcases List.mem_cons.1 h with rfl | h
    · omega
    · have := ih h; omega
theorem light_in {l : List Fld} (h : light l = true) : ∀ f ∈ l, f.1.length + f.2.length ≤ 100000 := fun f hf => by
  have h1 := lsum_in hf
  have h2 := of_decide_eq_true h
  omega
end Go.Proofs.Ytdgggjeiflllhaa.M

