/- reasm.New, Grow, Done, Top: what they return. No condition. -/
import Derived.BigQuiet
import Derived.Deep.CutBlock
import Derived.Lib.Hide
import Derived.IntWalk
import Derived.Test.YtljleaomlooiaaaRm2
namespace Go.Proofs.Ytljleaomlooiaaa.M
open Go.ChangeShapes Go.WideShapes Go.ChangeAt Go.RowKit

set_option maxRecDepth 100000 in
set_option maxHeartbeats 1000000 in
theorem new_any (win : Nat) (w : World) : Calls Try.prog 8 #[.int .u64 win] w fun e w' =>
    e = .returned (.pointer (some ⟨w.heap.size, 0, none⟩)) ∧ w' = w.alloc (.cells (Bf.cells ⟨[], 0, 0, min win 4611686018427387903, 0, false, false⟩ none 0 0) 52) := by
  go_enter Try.func8, Try.ntmps8
  go_upto_region 1 with (fail)
  go_wp2
  · go_ret
    refine ⟨rfl, ?_⟩
    rw [show min win 4611686018427387903 = 4611686018427387903 by omega]
    rfl
  · go_ret
    refine ⟨rfl, ?_⟩
    rw [show min win 4611686018427387903 = win by omega]
    rfl

set_option maxRecDepth 100000 in
set_option maxHeartbeats 1000000 in
theorem grow_any (B : Bf) (most : Nat) (p : Nat) (A : Option Addr) (n c : Nat) (w : World) (h : Blk w p 52 (B.cells A n c)) :
    Calls Try.prog 14 #[.pointer (some ⟨p, 0, none⟩), .int .u64 most] w fun e w' =>
      e = .returned (.tuple #[]) ∧ Blk w' p 52 ({ B with win := max B.win (min most 4611686018427387903) }.cells A n c) ∧ Frm (· = p) w w' := by
  obtain ⟨l, a, top, win, fin, known, reset⟩ := B
  unfold Bf.cells at h
  simp only at h
  simp only
  generalize hmx : max win (min most 4611686018427387903) = mx
  have HX := Lib.hid hmx
  clear hmx
  have h3 := h.cell 3
  simp only [List.getElem?_toArray, List.getElem?_cons_zero, List.getElem?_cons_succ] at h3
  have hz := h.frozen 3
  have hp := h.lt
  have H := Lib.hid h
  clear h
  go_enter Try.func14, Try.ntmps14
  have hfin : ∀ v : Nat, v = mx → Blk (w.setCell ⟨p, 3, none⟩ (.int .u64 v)) p 52 (Bf.cells ⟨l, a, top, mx, fin, known, reset⟩ A n c) ∧ Frm (· = p) w (w.setCell ⟨p, 3, none⟩ (.int .u64 v)) := fun v hv => by
    subst hv
    exact ⟨H.out.set_ 3 _, (Frm.refl (fun k => k = p) w).setCell (p := ⟨p, 3, none⟩) rfl _⟩
  by_cases hm : most ≤ 4611686018427387903
  · have hm1 : ¬ ((4611686018427387903 : Int) < most) := by omega
    go_wp2
    · go_end0
      exact ⟨rfl, hfin most (by have := HX.out; omega)⟩
    · go_end0
      exact ⟨rfl, hfin win (by have := HX.out; omega)⟩
  · by_cases hx : win < 4611686018427387903
    · have hm1 : ((4611686018427387903 : Int) < most) := by omega
      have hx1 : ((win : Int) < 4611686018427387903) := by omega
      go_wp2
      go_end0
      exact ⟨rfl, hfin 4611686018427387903 (by have := HX.out; omega)⟩
    · have hm1 : ((4611686018427387903 : Int) < most) := by omega
      have hx1 : ¬ ((win : Int) < 4611686018427387903) := by omega
      go_wp2
      go_end0
      exact ⟨rfl, hfin win (by have := HX.out; omega)⟩

set_option maxRecDepth 100000 in
set_option maxHeartbeats 1000000 in
theorem done_any (B : Bf) (p : Nat) (A : Option Addr) (n c : Nat) (w : World) (h : Blk w p 52 (B.cells A n c)) :
    Calls Try.prog 11 #[.pointer (some ⟨p, 0, none⟩)] w fun e w' => e = .returned (.bool B.over) ∧ ∃ q, w' = w.drewN q := by
  go_enter Try.func11, Try.ntmps11
  have HC := Lib.hid (over_any B p A n c w h)
  clear h
  go_upto_region 1 with (fail)
  go_wp2_with (go_at_call 24; refine HC.out.mono ?_; rintro e w1 ⟨rfl, q, rfl⟩)
  go_ret
  exact ⟨rfl, q, rfl⟩

set_option maxRecDepth 100000 in
set_option maxHeartbeats 1000000 in
theorem top_any (B : Bf) (p : Nat) (A : Option Addr) (n c : Nat) (w : World) (h : Blk w p 52 (B.cells A n c)) :
    Calls Try.prog 13 #[.pointer (some ⟨p, 0, none⟩)] w fun e w' => e = .returned (.int .u64 B.top) ∧ w' = w := by
  obtain ⟨l, a, top, win, fin, known, reset⟩ := B
  unfold Bf.cells at h
  simp only at h
  have h2 := h.cell 2
  simp only [List.getElem?_toArray, List.getElem?_cons_zero, List.getElem?_cons_succ] at h2
  have hp := h.lt
  have H := Lib.hid h
  clear h
  go_enter Try.func13, Try.ntmps13
  go_upto_region 1 with (fail)
  go_wp2
  go_ret
  exact ⟨rfl, rfl⟩
end Go.Proofs.Ytljleaomlooiaaa.M
