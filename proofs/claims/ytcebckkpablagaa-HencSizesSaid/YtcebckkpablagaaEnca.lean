/- henc.limited, Secret: what they tell. No condition. -/
import Derived.Test.YtcebckkpablagaaEncp
namespace Go.Proofs.Ytcebckkpablagaa.M
open Go.ChangeShapes Go.WideShapes Go.ChangeAt Go.RowKit

set_option maxRecDepth 100000 in
set_option maxHeartbeats 1000000 in
theorem limited_any (n : Int) (h0 : -9223372036854775808 ≤ n) (h1 : n ≤ 9223372036854775807) (w : World) :
    Calls Try.prog 51 #[.int .i64 n] w fun e w' => e = .returned (.int .i64 (lim n : Nat)) ∧ w' = w := by
  have hl : ((lim n : Nat) : Int) = min (max n 0) 4096 := by unfold lim; omega
  have HL := Lib.hid hl
  clear hl
  go_enter Try.func51, Try.ntmps51
  go_wp2
  all_goals go_ret
  all_goals refine ⟨ret_int ?_, rfl⟩
  all_goals have hq := HL.out
  all_goals rename_i hh
  all_goals first
    | (rw [if_neg (by omega)] at hh; omega)
    | (rw [if_pos (by omega)] at hh; omega)

set_option maxRecDepth 100000 in
set_option maxHeartbeats 1000000 in
theorem secret_any (s : Bytes) (w : World) :
    Calls Try.prog 77 #[str s] w fun e w' => e = .returned (.bool (secret s)) ∧ w' = w := by
  simp only [str]
  have HS : Hid (secret s = (decide (s = bAuth) || (decide (s = bCookie) || decide (s = bSetCookie)))) := rfl
  have e1 : (⟨s.toArray⟩ : ByteArray).toList = s := mk_toList s
  by_cases h1 : s = bAuth
  · subst h1
    go_enter Try.func77, Try.ntmps77
    go_wp2
    go_ret
    exact ⟨rfl, rfl⟩
  · by_cases h2 : s = bCookie
    · subst h2
      go_enter Try.func77, Try.ntmps77
      go_wp2
      go_ret
      exact ⟨rfl, rfl⟩
    · by_cases h3 : s = bSetCookie
      · subst h3
        go_enter Try.func77, Try.ntmps77
        go_wp2
        go_ret
        exact ⟨rfl, rfl⟩
      · have hr : secret s = false := by rw [HS.out, decide_eq_false h1, decide_eq_false h2, decide_eq_false h3]; rfl
        have HR := Lib.hid hr
        clear hr HS
        go_enter Try.func77, Try.ntmps77
        go_wp2
        go_ret
        refine ⟨ret_bool ?_, rfl⟩
        rw [HR.out]
        simp only [Bool.or_eq_false_iff, beq_eq_false_iff_ne, ne_eq]
        exact ⟨⟨h1, h2⟩, h3⟩
end Go.Proofs.Ytcebckkpablagaa.M
