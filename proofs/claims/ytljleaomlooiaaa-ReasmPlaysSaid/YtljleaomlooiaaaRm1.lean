/- reasm.New, check, over: what they return. No condition. -/
import Derived.BigQuiet
import Derived.Deep.CutBlock
import Derived.Lib.Hide
import Derived.IntWalk
import Derived.Test.YtljleaomlooiaaaRbb
import Derived.Test.YtljleaomlooiaaaArr
namespace Go.Proofs.Ytljleaomlooiaaa.M
open Go.ChangeShapes Go.WideShapes Go.ChangeAt Go.RowKit

/-- a buffer: its pieces; where reading is; the greatest end; the window; the final size; whether it is known; whether it was reset -/
structure Bf where
  l : List Pc
  a : Nat
  top : Nat
  win : Nat
  fin : Nat
  known : Bool
  reset : Bool
def Bf.chk (B : Bf) (stop : Nat) (fits f : Bool) : Nat :=
  if fits = false ∨ B.win < stop then 31 else if B.known = true ∧ (B.fin < stop ∨ (f = true ∧ stop ≠ B.fin)) then 42 else if f = true ∧ stop < B.top then 42 else 0
def Bf.over (B : Bf) : Bool := B.reset || (B.known && decide (B.a = B.fin))
/-- its own block -/
def Bf.cells (B : Bf) (A : Option Addr) (n c : Nat) : Array Value := #[.slice A n c, .int .u64 B.a, .int .u64 B.top, .int .u64 B.win, .int .u64 B.fin, .bool B.known, .bool B.reset]

set_option maxRecDepth 100000 in
set_option maxHeartbeats 1000000 in
theorem over_any (B : Bf) (p : Nat) (A : Option Addr) (n c : Nat) (w : World) (h : Blk w p 52 (B.cells A n c)) :
    Calls Try.prog 24 #[.pointer (some ⟨p, 0, none⟩)] w fun e w' => e = .returned (.bool B.over) ∧ ∃ q, w' = w.drewN q := by
  obtain ⟨l, a, top, win, fin, known, reset⟩ := B
  have hO : Hid (Bf.over ⟨l, a, top, win, fin, known, reset⟩ = (reset || (known && decide (a = fin)))) := rfl
  unfold Bf.cells at h
  simp only at h
  have h1 := h.cell 1
  have h4 := h.cell 4
  have h5 := h.cell 5
  have h6 := h.cell 6
  simp only [List.getElem?_toArray, List.getElem?_cons_zero, List.getElem?_cons_succ] at h1 h4 h5 h6
  have hp := h.lt
  have H := Lib.hid h
  clear h
  go_enter Try.func24, Try.ntmps24
  go_upto_region 1 with (fail)
  cases reset with
  | true =>
    go_quiet (fail)
    go_wp2
    go_ret
    rw [hO.out]
    exact ⟨rfl, _, rfl⟩
  | false =>
    cases known with
    | false =>
      go_quiet (fail)
      go_wp2
      go_ret
      rw [hO.out]
      exact ⟨rfl, _, rfl⟩
    | true =>
      by_cases he : a = fin
      · subst he
        go_quiet (fail)
        go_wp2
        go_ret
        rw [hO.out]
        exact ⟨by simp, _, rfl⟩
      · have hb : ((a : Int) == (fin : Int)) = false := by rw [beq_eq_false_iff_ne]; omega
        have hd : decide (a = fin) = false := decide_eq_false he
        go_quiet (fail)
        go_wp2
        go_ret
        rw [hO.out]
        exact ⟨by simp [he], _, rfl⟩
end Go.Proofs.Ytljleaomlooiaaa.M
