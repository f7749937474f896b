/- reasm.Reset: what it returns. No condition. -/
import Derived.BigQuiet
import Derived.Deep.CutBlock
import Derived.Lib.Hide
import Derived.IntWalk
import Derived.Test.YtljleaomlooiaaaRm3
namespace Go.Proofs.Ytljleaomlooiaaa.M
open Go.ChangeShapes Go.WideShapes Go.ChangeAt Go.RowKit

def Bf.reset' (B : Bf) (stop : Nat) : Bf := if B.chk stop true true = 0 then { B with l := [], fin := stop, known := true, reset := true, top := max B.top stop } else B

set_option maxRecDepth 100000 in
set_option maxHeartbeats 1000000 in
theorem reset_any (B : Bf) (stop : Nat) (p : Nat) (A : Option Addr) (n c : Nat) (w : World) (h : Blk w p 52 (B.cells A n c)) :
    Calls Try.prog 15 #[.pointer (some ⟨p, 0, none⟩), .int .u64 stop] w fun e w' =>
      e = .returned (.int .i64 (B.chk stop true true : Nat)) ∧ (if B.chk stop true true = 0 then Blk w' p 52 ((B.reset' stop).cells none 0 0) ∧ Frm (· = p) w w' else w' = w) := by
  have HC := Lib.hid (check_any B stop true true p A n c w h)
  have hp := h.lt
  by_cases he : B.chk stop true true = 0
  · have hO : Hid (B.reset' stop = { B with l := [], fin := stop, known := true, reset := true, top := max B.top stop }) := by unfold Bf.reset'; exact Lib.hid (if_pos he)
    simp only [he, if_true, hO.out] at HC ⊢
    clear hO he
    obtain ⟨l, a, top, win, fin, known, reset⟩ := B
    unfold Bf.cells at h ⊢
    simp only at h ⊢
    obtain ⟨mx, hmx⟩ : ∃ mx, mx = max top stop := ⟨_, rfl⟩
    rw [← hmx]
    have HX := Lib.hid hmx
    clear hmx
    have h0 := h.cell 0
    have h2 := h.cell 2
    have h4 := h.cell 4
    have h5 := h.cell 5
    have h6 := h.cell 6
    simp only [List.getElem?_toArray, List.getElem?_cons_zero, List.getElem?_cons_succ] at h0 h2 h4 h5 h6
    have z0 := h.frozen 0
    have z2 := h.frozen 2
    have z4 := h.frozen 4
    have z5 := h.frozen 5
    have z6 := h.frozen 6
    have hB : ∀ v : Nat, v = mx → Blk (((((w.setCell ⟨p, 4, none⟩ (.int .u64 stop)).setCell ⟨p, 5, none⟩ (.bool true)).setCell ⟨p, 6, none⟩ (.bool true)).setCell ⟨p, 2, none⟩ (.int .u64 v)).setCell ⟨p, 0, none⟩ (.slice none 0 0)) p 52 #[.slice none 0 0, .int .u64 a, .int .u64 mx, .int .u64 win, .int .u64 stop, .bool true, .bool true] ∧
        Frm (· = p) w (((((w.setCell ⟨p, 4, none⟩ (.int .u64 stop)).setCell ⟨p, 5, none⟩ (.bool true)).setCell ⟨p, 6, none⟩ (.bool true)).setCell ⟨p, 2, none⟩ (.int .u64 v)).setCell ⟨p, 0, none⟩ (.slice none 0 0)) := fun v hv => by
      subst hv
      exact ⟨((((h.set_ 4 _).set_ 5 _).set_ 6 _).set_ 2 _).set_ 0 _, (((((Frm.refl (fun k => k = p) w).setCell (p := ⟨p, 4, none⟩) rfl _).setCell (p := ⟨p, 5, none⟩) rfl _).setCell (p := ⟨p, 6, none⟩) rfl _).setCell (p := ⟨p, 2, none⟩) rfl _).setCell (p := ⟨p, 0, none⟩) rfl _⟩
    have H := Lib.hid h
    have HB := Lib.hid hB
    clear h hB
    go_enter Try.func15, Try.ntmps15
    go_upto_region 4 with (go_at_call 23; refine HC.out.mono ?_; rintro e w1 ⟨rfl, rfl⟩)
    go_wp2
    · go_ret
      exact ⟨rfl, HB.out stop (by have := HX.out; omega)⟩
    · go_ret
      exact ⟨rfl, HB.out top (by have := HX.out; omega)⟩
  · have he2 : ((B.chk stop true true : Nat) : Int) ≠ 0 := by omega
    have he3 : (((B.chk stop true true : Nat) : Int) == 0) = false := by rw [beq_eq_false_iff_ne]; exact he2
    simp only [if_neg he]
    have H := Lib.hid h
    clear h
    go_enter Try.func15, Try.ntmps15
    go_upto_region 3 with (go_at_call 23; refine HC.out.mono ?_; rintro e w1 ⟨rfl, rfl⟩)
    go_wp2
    go_ret
    exact ⟨rfl, rfl⟩
end Go.Proofs.Ytljleaomlooiaaa.M
