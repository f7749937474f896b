/- Hrd -/
import Derived.Deep.CutBlock
import Derived.StillTailTactics
import Derived.Deep.RegionHeld3
import Derived.Test.YtdgggjeiflllhaaZyLev
import Derived.Test.YtdgggjeiflllhaaZyEncp
import Derived.Test.YtdgggjeiflllhaaZyIn
import Derived.Test.YtdgggjeiflllhaaZyTab
import Derived.Test.YtdgggjeiflllhaaZyKey

namespace Go.Proofs.Ytdgggjeiflllhaa.M
open Go.ChangeShapes Go.WideShapes Go.ChangeAt Go.RowKit
section
variable {w wr w' : World} {S S' : Nat → Prop} {pd g pr up c co : Nat} {D : De} {T : Tb} {mu : Bool} {out : List Fld} {r : Bytes} {A Ao : Option Addr}
end
end Go.Proofs.Ytdgggjeiflllhaa.M
namespace Go.Proofs.Ytdgggjeiflllhaa.M
open Go.ChangeShapes Go.WideShapes Go.ChangeAt Go.RowKit
def entV (o : Option Fld) : Fld × Bool := match o with | some f => (f, true) | none => (([], []), false)
set_option maxRecDepth 100000 in
set_option maxHeartbeats 1000000 in
theorem sat_any (l : List Fld) (A : Option Addr) (c i : Nat) (w : World) (hR : Rd w A (fvs l)) (hl : l.length ≤ 1152921504606846976) :
    Calls Try.prog 144 #[.slice A l.length c, .int .u64 i] w fun e w' => e = .returned (.tuple #[fld (entV l[i]?).1, .bool (entV l[i]?).2]) ∧ Frm (New w) w w' := by
  have hB1 := Blk.new w 71 #[.string ⟨#[]⟩, .string ⟨#[]⟩]
  have hF1 : Frm (New w) w (w.alloc (Obj.cells #[.string ⟨#[]⟩, .string ⟨#[]⟩] 71)) := (Frm.refl _ _).alloc Up.new _
  have hw0 : IntKind.u64.wrap (l.length : Int) = (l.length : Int) := IntWalk.u64_in _ (by omega)
  have hR1 := hR.fresh hF1
  by_cases hq : i < l.length
  · have hE : Hid (entV l[i]? = (l[i], true)) := by show _ = _; rw [List.getElem?_eq_getElem hq]; rfl
    rw [hE.out]
    clear hE
    obtain ⟨gA, off, rfl, hx⟩ := hR1.at_ (k := i * 2) (by rw [fvs_length]; omega)
    clear hx
    obtain ⟨hc1, hc2⟩ := fld_cells hR1 i hq
    obtain ⟨hc3, _⟩ := fld_cells hR i hq
    have hgA : gA < w.heap.size := World.block_lt_of_cell? _ _ hc3
    clear hc3
    generalize l[i] = f at *
    obtain ⟨f1, f2⟩ := f
    simp only [str] at hc1 hc2
    have HR := Lib.hid hR
    have HR1 := Lib.hid hR1
    have HB1 := Lib.hid hB1
    have HF1 := Lib.hid hF1
    clear hR hR1 hB1 hF1
    go_enter Try.func144, Try.ntmps144
    go_upto_region 1 with (fail)
    generalize w.alloc (Obj.cells #[.string ⟨#[]⟩, .string ⟨#[]⟩] 71) = w1 at *
    have hB := HB1.out
    have hx1 := hB.cell 0
    have hx2 := hB.cell 1
    simp only [List.getElem?_toArray, List.getElem?_cons_zero, List.getElem?_cons_succ] at hx1 hx2
    have hz1 := hB.frozen 0
    have hz2 := hB.frozen 1
    have hbl := hB.lt
    clear hB
    generalize hb : w.heap.size = b at *
    have hne : ¬ b = gA := by omega
    have hgA1 : gA < w1.heap.size := World.block_lt_of_cell? _ _ hc1
    have HB := Lib.hid hb
    clear hb
    go_wp2
    refine bodyPost_ret (results_agg_tmp aggf rfl rfl rfl ((HB1.out.set_ 0 (.string ⟨f1.toArray⟩)).set_ 1 (.string ⟨f2.toArray⟩)) rfl) rfl ?_
    exact ⟨rfl, (HF1.out.setCell (p := ⟨b, 0, none⟩) (by have := HB.out; unfold New; simp only; omega) _).setCell (p := ⟨b, 1, none⟩) (by have := HB.out; unfold New; simp only; omega) _⟩
  · have hE : Hid (entV l[i]? = (([], []), false)) := by show _ = _; rw [List.getElem?_eq_none (by omega)]; rfl
    rw [hE.out]
    clear hE
    have HR := Lib.hid hR
    have HR1 := Lib.hid hR1
    have HB1 := Lib.hid hB1
    have HF1 := Lib.hid hF1
    clear hR hR1 hB1 hF1
    go_enter Try.func144, Try.ntmps144
    go_upto_region 1 with (fail)
    generalize w.alloc (Obj.cells #[.string ⟨#[]⟩, .string ⟨#[]⟩] 71) = w1 at *
    have hB := HB1.out
    have hx1 := hB.cell 0
    have hx2 := hB.cell 1
    simp only [List.getElem?_toArray, List.getElem?_cons_zero, List.getElem?_cons_succ] at hx1 hx2
    have hz1 := hB.frozen 0
    have hz2 := hB.frozen 1
    have hbl := hB.lt
    clear hB
    generalize hb : w.heap.size = b at *
    have HB := Lib.hid hb
    clear hb
    go_wp2
    refine bodyPost_ret (results_agg_tmp aggf rfl rfl rfl ((HB1.out.set_ 0 (.string ⟨#[]⟩)).set_ 1 (.string ⟨#[]⟩)) rfl) rfl ?_
    exact ⟨rfl, (HF1.out.setCell (p := ⟨b, 0, none⟩) (by have := HB.out; unfold New; simp only; omega) _).setCell (p := ⟨b, 1, none⟩) (by have := HB.out; unfold New; simp only; omega) _⟩
end Go.Proofs.Ytdgggjeiflllhaa.M

