/- reasm.check: what it returns. No condition. -/
import Derived.BigQuiet
import Derived.Deep.CutBlock
import Derived.Lib.Hide
import Derived.IntWalk
import Derived.Test.YtljleaomlooiaaaRm1
namespace Go.Proofs.Ytljleaomlooiaaa.M
open Go.ChangeShapes Go.WideShapes Go.ChangeAt Go.RowKit

set_option maxRecDepth 100000 in
set_option maxHeartbeats 4000000 in
theorem check_any (B : Bf) (stop : Nat) (fits f : Bool) (p : Nat) (A : Option Addr) (n c : Nat) (w : World) (h : Blk w p 52 (B.cells A n c)) :
    Calls Try.prog 23 #[.pointer (some ⟨p, 0, none⟩), .int .u64 stop, .bool fits, .bool f] w fun e w' => e = .returned (.int .i64 (B.chk stop fits f : Nat)) ∧ w' = w := by
  obtain ⟨l, a, top, win, fin, known, reset⟩ := B
  have hO : Hid (Bf.chk ⟨l, a, top, win, fin, known, reset⟩ stop fits f = if fits = false ∨ win < stop then 31 else if known = true ∧ (fin < stop ∨ (f = true ∧ stop ≠ fin)) then 42 else if f = true ∧ stop < top then 42 else 0) := rfl
  unfold Bf.cells at h
  simp only at h
  have h2 := h.cell 2
  have h3 := h.cell 3
  have h4 := h.cell 4
  have h5 := h.cell 5
  simp only [List.getElem?_toArray, List.getElem?_cons_zero, List.getElem?_cons_succ] at h2 h3 h4 h5
  have hp := h.lt
  have H := Lib.hid h
  clear h
  go_enter Try.func23, Try.ntmps23
  cases fits with
  | false =>
    go_upto_region 2 with (fail)
    go_wp2
    go_ret
    rw [hO.out]
    exact ⟨by simp, rfl⟩
  | true =>
    by_cases hw : win < stop
    · have hb : ((win : Int) < (stop : Int)) := by omega
      go_upto_region 2 with (fail)
      go_wp2
      go_ret
      rw [hO.out]
      exact ⟨by simp [hw], rfl⟩
    · have hb : ¬ ((win : Int) < (stop : Int)) := by omega
      go_upto_region 3 with (fail)
      have hw0 : (false || decide (win < stop)) = false := by simp [hw]
      cases known with
      | false =>
        cases f with
        | false =>
          go_upto_region 7 with (fail)
          go_wp2
          go_ret
          rw [hO.out]
          exact ⟨by simp [hw], rfl⟩
        | true =>
          by_cases ht : stop < top
          · have hb2 : ((stop : Int) < (top : Int)) := by omega
            go_upto_region 6 with (fail)
            go_wp2
            go_ret
            rw [hO.out]
            exact ⟨by simp [hw, ht], rfl⟩
          · have hb2 : ¬ ((stop : Int) < (top : Int)) := by omega
            go_upto_region 7 with (fail)
            go_wp2
            go_ret
            rw [hO.out]
            exact ⟨by simp [hw, ht], rfl⟩
      | true =>
        by_cases hf : fin < stop
        · have hb1 : ((fin : Int) < (stop : Int)) := by omega
          go_upto_region 4 with (fail)
          go_wp2
          go_ret
          rw [hO.out]
          exact ⟨by simp [hw, hf], rfl⟩
        · have hb1 : ¬ ((fin : Int) < (stop : Int)) := by omega
          cases f with
          | false =>
            go_upto_region 7 with (fail)
            go_wp2
            go_ret
            rw [hO.out]
            exact ⟨by simp [hw, hf], rfl⟩
          | true =>
            by_cases hs : stop = fin
            · subst hs
              by_cases ht : stop < top
              · have hb2 : ((stop : Int) < (top : Int)) := by omega
                go_upto_region 6 with (fail)
                go_wp2
                go_ret
                rw [hO.out]
                exact ⟨by simp [hw, ht], rfl⟩
              · have hb2 : ¬ ((stop : Int) < (top : Int)) := by omega
                go_upto_region 7 with (fail)
                go_wp2
                go_ret
                rw [hO.out]
                exact ⟨by simp [hw, ht], rfl⟩
            · have hb2 : ((stop : Int) == (fin : Int)) = false := by rw [beq_eq_false_iff_ne]; omega
              go_upto_region 4 with (fail)
              go_wp2
              go_ret
              rw [hO.out]
              exact ⟨by simp [hw, hs], rfl⟩
end Go.Proofs.Ytljleaomlooiaaa.M
