/- The walk of QtabWindow: it returns true. Conditions: the arguments fit their kinds. -/
import Derived.Test.YtkfpcihkibnbnaaQd
namespace Go.Proofs.Ytkfpcihkibnbnaa.Q
open Go.ChangeShapes Go.WideShapes Go.ChangeAt Go.RowKit
open Go.Proofs.Ytkfpcihkibnbnaa.M (Frm New Up)

set_option maxRecDepth 100000 in
set_option maxHeartbeats 2000000 in
theorem window_walk (t a d : Int) (w : World) (w0 : (Lit.int .u16 t).wf = true) (w1 : (Lit.int .u16 a).wf = true) (w2 : (Lit.int .u16 d).wf = true) :
    Calls Try.prog 5 #[.int .u16 t, .int .u16 a, .int .u16 d] w fun e w' => e = .returned (.bool true) ∧ Below w.heap.size w w' := by
  obtain ⟨t0, t1⟩ := bounds_u16 w0
  obtain ⟨a0, a1⟩ := bounds_u16 w1
  obtain ⟨d0, d1⟩ := bounds_u16 w2
  clear w0 w1 w2
  have hE : ∀ c w, 0 ≤ c → c ≤ 18446744073709551615 → Calls Try.prog 9 #[.int .u64 c, .int .i64 a] w fun e w' => e = .returned (.int .u64 (enc c (most a))) ∧ w = w' := fun c w h1 h2 => enc_any c a w h1 h2 (by omega) (by omega)
  have hD : ∀ e w, 0 ≤ e → e ≤ 18446744073709551615 → Calls Try.prog 7 #[.int .u64 e, .int .u64 t, .int .i64 a] w fun x w' => x = .returned (.tuple #[.int .u64 (dec e t (most a)).1, .int .i64 (dec e t (most a)).2]) ∧ ∃ n, w' = w.drewN n :=
    fun e w h1 h2 => dec_any e t a w h1 h2 t0 (by omega) (by omega) (by omega)
  have hD2 : ∀ e w, 0 ≤ e → e ≤ 18446744073709551615 → Calls Try.prog 8 #[.int .u64 e, .int .u64 t, .int .i64 a] w fun x w' => x = .returned (.tuple #[.int .u64 (dec e t (most a)).1, .int .i64 (dec e t (most a)).2]) ∧ w = w' :=
    fun e w h1 h2 => rdec_any e t a w h1 h2 t0 (by omega) (by omega) (by omega)
  have hmd : most a = a / 32 := by unfold most; omega
  have hm2 : most a ≤ 2047 := by omega
  have m0 : 0 ≤ most a := by omega
  generalize most a = m at *
  have hq : a / 32 = m := hmd.symm
  clear hmd
  by_cases hm : m = 0
  · subst hm
    go_enter Try.func5, Try.ntmps5
    go_wp2_with (first | (go_at_call 6; refine (known_any _).mono ?_; rintro e w' ⟨rfl, hF⟩) | fail)
    go_ret
    exact ⟨rfl, hF.below⟩
  · have hm1 : 1 ≤ m := by omega
    have hm' : (m == 0) = false := by rw [beq_eq_false_iff_ne]; exact hm
    have hx0 : 0 ≤ d % (2 * m) := Int.emod_nonneg _ (by omega)
    have hx1 : d % (2 * m) < 2 * m := Int.emod_lt_of_pos _ (by omega)
    have n2 : ¬ 2 * m = 0 := by omega
    have hde := dec_enc t m (d % (2 * m)) hm1 hx0 hx1
    have hfar : dec (2 * m + 1 + d) t m = (0, 24) := by
      unfold dec; rw [if_neg (by omega), if_pos (by omega)]
    by_cases g1 : d % (2 * m) < t + m
    · have hb3 : ((t + m - d % (2 * m)) == 0) = false := by rw [beq_eq_false_iff_ne]; omega
      obtain ⟨hen0, hen1⟩ := enc_bd (t + m - d % (2 * m)) m (by omega) (by omega)
      have hen2 := hen1 (by omega)
      have hde' := hde (by omega)
      clear hde hen1
      go_enter Try.func5, Try.ntmps5
      go_wp2_with (first | (go_at_call 6; refine (known_any _).mono ?_; rintro e w' ⟨rfl, hF⟩) | (go_at_call 7; refine (hD _ _ (by omega) (by omega)).mono ?_; rintro e w' ⟨rfl, n, rfl⟩) | (go_at_call 8; refine (hD2 _ _ (by omega) (by omega)).mono ?_; rintro e w' ⟨rfl, rfl⟩) | (go_at_call 9; refine (hE _ _ (by omega) (by omega)).mono ?_; rintro e w' ⟨rfl, rfl⟩) | fail)
      go_ret
      exact ⟨rfl, (hF.drewN _).below⟩
    · clear hde
      by_cases g4 : t + m < d % (2 * m)
      · go_enter Try.func5, Try.ntmps5
        go_wp2_with (first | (go_at_call 6; refine (known_any _).mono ?_; rintro e w' ⟨rfl, hF⟩) | fail)
        go_ret
        exact ⟨rfl, hF.below⟩
      · have g5 : d % (2 * m) ≤ t + m := by omega
        have hb3 : ((t + m - d % (2 * m)) == 0) = true := by rw [beq_iff_eq]; omega
        go_enter Try.func5, Try.ntmps5
        go_wp2_with (first | (go_at_call 6; refine (known_any _).mono ?_; rintro e w' ⟨rfl, hF⟩) | fail)
        go_ret
        exact ⟨rfl, hF.below⟩
end Go.Proofs.Ytkfpcihkibnbnaa.Q
