/- slices.Clone, of bytes and of pieces; piece.end: what they return. Bytes below 2^47. -/
import Derived.BigQuiet
import Derived.Deep.CutBlock
import Derived.Lib.Hide
import Derived.IntWalk
import Derived.WalkLawsBesides
import Derived.Laws.Cover3
import Derived.Test.YtljleaomlooiaaaRbb
import Derived.Test.YtljleaomlooiaaaArr
namespace Go.Proofs.Ytljleaomlooiaaa.M
open Go.ChangeShapes Go.WideShapes Go.ChangeAt Go.RowKit

@[go_sem] theorem run_eql_slice_nil {P : Program} (w : World) (t e : TypeId) (a : Option Addr) (l c : Nat) (h : P.underlying t = some (.slice e)) : (binOp .eql t (.slice a l c) (.slice none 0 0)).run P w = .ok (.bool a.isNone) w := by
  simp only [binOp]
  simp [run_equal_slice_nil w t e a l c h]

set_option maxRecDepth 100000 in
set_option maxHeartbeats 1000000 in
theorem bclone_any (A : Option Addr) (n c : Nat) (b : List UInt8) (w : World) (hR : Rd w A (bvs b)) (hn : b.length = n) (hnil : A = none → n = 0 ∧ c = 0) (hby : n ≤ 140737488355328) :
    Calls Try.prog 29 #[.slice A n c] w fun e w' => ∃ A' c', e = .returned (.slice A' n c') ∧ App (New w) w' 5 1 A' n c' (bvs b) ∧ Frm (New w) w w' := by
  subst hn
  cases A with
  | none =>
    obtain ⟨h0, rfl⟩ := hnil rfl
    obtain rfl : b = [] := List.eq_nil_of_length_eq_zero h0
    have hun := u8s.ht
    go_enter Try.func29, Try.ntmps29
    go_upto_region 2 with (fail)
    go_wp2
    go_ret
    exact ⟨none, 0, rfl, App.none_, Frm.refl _ _⟩
  | some a =>
    have hA5 : App (New w) (w.alloc (.cells #[] 5)) 5 1 (some ⟨w.heap.size, 0, none⟩) 0 0 [] := App.made w #[] _ 1 0 0 (Nat.le_refl _) rfl (Nat.le_refl _) (Nat.zero_le _)
    have hu5 : Up (New w) (w.alloc (.cells #[] 5)) := Up.new.of (by simp)
    have hR5 := hR.alloc (.cells #[] 5)
    have hF5 : Frm (New w) w (w.alloc (.cells #[] 5)) := (Frm.refl _ w).alloc Up.new _
    have hun := u8s.ht
    go_enter Try.func29, Try.ntmps29
    go_upto_region 3 with (fail)
    go_wp2_with (at_builtin; refine wpList_append u8s rfl rfl rfl hA5 hu5 rfl hR5 (by simp) (bvs_one _) (by omega) ?_; intro A6 c6 w6 hA6 hF6 _ _; rw [Nat.zero_add, List.nil_append] at hA6; rw [Nat.zero_add])
    go_ret
    exact ⟨A6, c6, rfl, hA6, hF5.trans hF6⟩

set_option maxRecDepth 100000 in
set_option maxHeartbeats 1000000 in
theorem pclone_any (A : Option Addr) (n c : Nat) (xs : List Value) (w : World) (hR : Rd w A xs) (hn : xs.length = n * 2) (h1 : ∀ u ∈ xs, u.oneCell' = true) (hnil : A = none → n = 0 ∧ c = 0) (hby : n * 32 ≤ 140737488355328) :
    Calls Try.prog 27 #[.slice A n c] w fun e w' => ∃ A' c', e = .returned (.slice A' n c') ∧ App (New w) w' 56 2 A' n c' xs ∧ Frm (New w) w w' := by
  cases A with
  | none =>
    obtain ⟨rfl, rfl⟩ := hnil rfl
    obtain rfl : xs = [] := List.eq_nil_of_length_eq_zero (by omega)
    have hun := pcs.ht
    go_enter Try.func27, Try.ntmps27
    go_upto_region 2 with (fail)
    go_wp2
    go_ret
    exact ⟨none, 0, rfl, App.none_, Frm.refl _ _⟩
  | some a =>
    have hA5 : App (New w) (w.alloc (.cells #[] 56)) 56 2 (some ⟨w.heap.size, 0, none⟩) 0 0 [] := App.made w #[] _ 2 0 0 (Nat.le_refl _) rfl (Nat.le_refl _) (Nat.zero_le _)
    have hu5 : Up (New w) (w.alloc (.cells #[] 56)) := Up.new.of (by simp)
    have hR5 := hR.alloc (.cells #[] 56)
    have hF5 : Frm (New w) w (w.alloc (.cells #[] 56)) := (Frm.refl _ w).alloc Up.new _
    have hun := pcs.ht
    go_enter Try.func27, Try.ntmps27
    go_upto_region 3 with (fail)
    go_wp2_with (at_builtin; refine wpList_append pcs rfl rfl rfl hA5 hu5 rfl hR5 (by omega) h1 (by omega) ?_; intro A6 c6 w6 hA6 hF6 _ _; rw [Nat.zero_add, List.nil_append] at hA6; rw [Nat.zero_add])
    go_ret
    exact ⟨A6, c6, rfl, hA6, hF5.trans hF6⟩
end Go.Proofs.Ytljleaomlooiaaa.M
