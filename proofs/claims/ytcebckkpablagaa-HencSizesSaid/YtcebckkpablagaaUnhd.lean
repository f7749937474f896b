/- The code's levels: facts that are reckoned. No condition. -/
import Derived.Test.YtcebckkpablagaaDecp
namespace Go.Proofs.Ytcebckkpablagaa.M
open Go.ChangeShapes Go.WideShapes Go.ChangeAt Go.RowKit

def fst_ (n : Nat) : Nat := (firstTo 30).getD n 0
def cnt_ (n : Nat) : Nat := (cntTo 257).getD n 0
/-- how many codes are shorter -/
def at_ : Nat → Nat
  | 0 => 0
  | n + 1 => at_ n + cnt_ n
/-- the signs, by their codes -/
def ord_ : List Nat := (List.range 31).flatMap fun n => (List.range 257).filter fun s => lens.getD s 0 == n
theorem lev_next : ∀ n : Fin 30, fst_ (n.val + 1) = 2 * (fst_ n.val + cnt_ n.val) := by decide +kernel
theorem lev_top : fst_ 30 + cnt_ 30 = 1073741824 := by decide +kernel
theorem lev_zero : fst_ 0 = 0 ∧ cnt_ 0 = 0 ∧ fst_ 1 = 0 := by decide +kernel
theorem lev_code : ∀ s : Fin 257, fst_ (codes.getD s.val (0, 0)).2 ≤ (codes.getD s.val (0, 0)).1 ∧ (codes.getD s.val (0, 0)).1 < fst_ (codes.getD s.val (0, 0)).2 + cnt_ (codes.getD s.val (0, 0)).2 := by decide +kernel
theorem lev_look : ∀ n : Fin 31, ∀ k : Fin 257, k.val < cnt_ n.val → look n.val (fst_ n.val + k.val) = ord_[at_ n.val + k.val]? ∧ (ord_[at_ n.val + k.val]?).isSome = true := by decide +kernel
theorem cnt_le : ∀ n : Fin 31, cnt_ n.val ≤ 257 := by decide +kernel

theorem look_code : ∀ s : Fin 257, look (codes.getD s.val (0, 0)).2 (codes.getD s.val (0, 0)).1 = some s.val := by decide +kernel
theorem code_open : ∀ s : Fin 257, ∀ j : Fin 31, 1 ≤ j.val → j.val < (codes.getD s.val (0, 0)).2 → fst_ j.val + cnt_ j.val ≤ (codes.getD s.val (0, 0)).1 / 2 ^ ((codes.getD s.val (0, 0)).2 - j.val) := by decide +kernel
theorem ones_open : ∀ j : Fin 8, 1 ≤ j.val → fst_ j.val + cnt_ j.val ≤ 2 ^ j.val - 1 := by decide +kernel
end Go.Proofs.Ytcebckkpablagaa.M
