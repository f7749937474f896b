/- DecodeCount of qtab and of its reference: what each returns. Conditions: the integers fit their kinds; the total is at most 2^62. -/
import Derived.Test.YtkfpcihkibnbnaaQa
import Derived.Deep.QuietTactic
import Derived.BigQuiet
import Derived.Lib.Hide
namespace Go.Proofs.Ytkfpcihkibnbnaa.Q
open Go.ChangeShapes Go.WideShapes Go.ChangeAt Go.RowKit

set_option maxHeartbeats 400000 in
theorem div64 (x y : Int) (w : World) (x0 : 0 ≤ x) (x1 : x ≤ 18446744073709551615) (y0 : 1 ≤ y) (y1 : y ≤ 18446744073709551615) :
  Calls Try.prog 19 #[.int .u64 0, .int .u64 x, .int .u64 y] w fun e w' => e = .returned (.tuple #[.int .u64 (x / y), .int .u64 (x % y)]) ∧ ∃ n, w' = w.drewN n := by
  have h1 : (y == 0) = false := by rw [beq_eq_false_iff_ne]; omega
  have h2 : ¬ y = 0 := by omega
  go_enter Try.func19, Try.ntmps19
  go_wp2
  go_quiet (fail)
  go_wp2
  go_ret2
  exact ⟨rfl, _, rfl⟩

/-- DecodeCount, as the reference has it -/
def dec (e t m : Int) : Int × Int :=
  if e = 0 then (0, 0) else
  if m = 0 ∨ 2 * m < e then (0, 24) else
  let c := (t + m) / (2 * m) * (2 * m) + e - 1
  if t + m < c then (if c ≤ 2 * m then (0, 24) else (c - 2 * m, 0)) else if c = 0 then (0, 24) else (c, 0)

set_option maxHeartbeats 1000000 in
theorem rdec_any (e t a : Int) (w : World) (e0 : 0 ≤ e) (e1 : e ≤ 18446744073709551615) (t0 : 0 ≤ t) (t1 : t ≤ 4611686018427387904) (h0 : -9223372036854775808 ≤ a) (h1 : a ≤ 9223372036854775807) :
  Calls Try.prog 8 #[.int .u64 e, .int .u64 t, .int .i64 a] w fun x w' => x = .returned (.tuple #[.int .u64 (dec e t (most a)).1, .int .i64 (dec e t (most a)).2]) ∧ w = w' := by
  obtain ⟨m0, m1⟩ := most_bd a h1
  have hcon := fun w => rmost_any a w h0 h1
  generalize most a = m at *
  by_cases he : e = 0
  · have r1 : dec e t m = (0, 0) := by simp [dec, he]
    rw [r1]; subst he; clear r1
    go_enter Try.func8, Try.ntmps8
    go_wp2_with (go_at_call 21; refine (hcon _).mono ?_; rintro e w' ⟨rfl, rfl⟩)
    go_ret2
    exact ⟨rfl, rfl⟩
  have he' : (e == 0) = false := by simpa using he
  by_cases hm : m = 0
  · have r1 : dec e t m = (0, 24) := by simp [dec, he, hm]
    rw [r1]; subst hm; clear r1
    go_enter Try.func8, Try.ntmps8
    go_wp2_with (go_at_call 21; refine (hcon _).mono ?_; rintro e w' ⟨rfl, rfl⟩)
    go_ret2
    exact ⟨rfl, rfl⟩
  have hm' : (m == 0) = false := by simpa using hm
  by_cases hb : 2 * m < e
  · have r1 : dec e t m = (0, 24) := by simp [dec, he, hb]
    rw [r1]; clear r1
    go_enter Try.func8, Try.ntmps8
    go_wp2_with (go_at_call 21; refine (hcon _).mono ?_; rintro e w' ⟨rfl, rfl⟩)
    go_ret2
    exact ⟨rfl, rfl⟩
  have q0 : 0 ≤ (t + m) / (2 * m) := Int.ediv_nonneg (by omega) (by omega)
  have q1 : (t + m) / (2 * m) * (2 * m) ≤ t + m := Int.ediv_mul_le _ (by omega)
  have q2 : 0 ≤ (t + m) / (2 * m) * (2 * m) := Int.mul_nonneg q0 (by omega)
  have q3 : (t + m) / (2 * m) ≤ t + m := Int.ediv_le_self _ (by omega)
  have n1 : 1 ≤ 2 * m := by omega
  have n2 : ¬ 2 * m = 0 := by omega
  by_cases g1 : t + m < (t + m) / (2 * m) * (2 * m) + e - 1
  · by_cases g2 : (t + m) / (2 * m) * (2 * m) + e - 1 ≤ 2 * m
    · have r1 : dec e t m = (0, 24) := by simp [dec, he, hb, hm, g1, g2]
      rw [r1]; clear r1
      go_enter Try.func8, Try.ntmps8
      go_wp2_with (go_at_call 21; refine (hcon _).mono ?_; rintro e w' ⟨rfl, rfl⟩)
      go_ret2
      exact ⟨rfl, rfl⟩
    · have r1 : dec e t m = ((t + m) / (2 * m) * (2 * m) + e - 1 - 2 * m, 0) := by simp [dec, he, hb, hm, g1, g2]
      have z : (((t + m) / (2 * m) * (2 * m) + e - 1 - 2 * m) == 0) = false := by rw [beq_eq_false_iff_ne]; omega
      rw [r1]; clear r1
      go_enter Try.func8, Try.ntmps8
      go_wp2_with (go_at_call 21; refine (hcon _).mono ?_; rintro e w' ⟨rfl, rfl⟩)
      go_ret2
      exact ⟨rfl, rfl⟩
  · by_cases g3 : (t + m) / (2 * m) * (2 * m) + e - 1 = 0
    · have r1 : dec e t m = (0, 24) := by simp [dec, he, hb, hm, g3]; omega
      have z : (((t + m) / (2 * m) * (2 * m) + e - 1) == 0) = true := by rw [beq_iff_eq]; omega
      rw [r1]; clear r1
      have H := g3; clear g3
      go_enter Try.func8, Try.ntmps8
      go_wp2_with (go_at_call 21; refine (hcon _).mono ?_; rintro e w' ⟨rfl, rfl⟩)
      go_ret2
      exact ⟨rfl, rfl⟩
    · have r1 : dec e t m = ((t + m) / (2 * m) * (2 * m) + e - 1, 0) := by simp [dec, he, hb, hm, g1, g3]
      have z : (((t + m) / (2 * m) * (2 * m) + e - 1) == 0) = false := by rw [beq_eq_false_iff_ne]; omega
      rw [r1]; clear r1
      go_enter Try.func8, Try.ntmps8
      go_wp2_with (go_at_call 21; refine (hcon _).mono ?_; rintro e w' ⟨rfl, rfl⟩)
      go_ret2
      exact ⟨rfl, rfl⟩

/-- what the program reckons with: the total and most together are at most 2^63, so no carry and no borrow comes -/
theorem dec_low (t m : Int) (t0 : 0 ≤ t) (m0 : 1 ≤ m) : 0 ≤ (t + m) % (2 * m) ∧ (t + m) % (2 * m) < 2 * m ∧ (t + m) % (2 * m) ≤ t + m ∧ (t + m) / (2 * m) * (2 * m) = t + m - (t + m) % (2 * m) := by
  have h := Int.mul_ediv_add_emod (t + m) (2 * m)
  have h1 : (t + m) / (2 * m) * (2 * m) = 2 * m * ((t + m) / (2 * m)) := Int.mul_comm _ _
  have q0 : 0 ≤ (t + m) / (2 * m) := Int.ediv_nonneg (by omega) (by omega)
  have q2 : 0 ≤ (t + m) / (2 * m) * (2 * m) := Int.mul_nonneg q0 (by omega)
  exact ⟨Int.emod_nonneg _ (by omega), Int.emod_lt_of_pos _ (by omega), by omega, by omega⟩

set_option maxHeartbeats 1000000 in
theorem dec_any (e t a : Int) (w : World) (e0 : 0 ≤ e) (e1 : e ≤ 18446744073709551615) (t0 : 0 ≤ t) (t1 : t ≤ 4611686018427387904) (h0 : -9223372036854775808 ≤ a) (h1 : a ≤ 9223372036854775807) :
  Calls Try.prog 7 #[.int .u64 e, .int .u64 t, .int .i64 a] w fun x w' => x = .returned (.tuple #[.int .u64 (dec e t (most a)).1, .int .i64 (dec e t (most a)).2]) ∧ ∃ n, w' = w.drewN n := by
  obtain ⟨m0, m1⟩ := most_bd a h1
  have hcon := fun w => most_any a w h0 h1
  generalize most a = m at *
  by_cases he : e = 0
  · have r1 : dec e t m = (0, 0) := by simp [dec, he]
    rw [r1]; subst he; clear r1
    go_enter Try.func7, Try.ntmps7
    go_wp2_with (go_at_call 17; refine (hcon _).mono ?_; rintro e w' ⟨rfl, rfl⟩)
    go_ret2
    exact ⟨rfl, 0, rfl⟩
  have he' : (e == 0) = false := by simpa using he
  by_cases hm : m = 0
  · have r1 : dec e t m = (0, 24) := by simp [dec, he, hm]
    rw [r1]; subst hm; clear r1
    go_enter Try.func7, Try.ntmps7
    go_wp2_with (go_at_call 17; refine (hcon _).mono ?_; rintro e w' ⟨rfl, rfl⟩)
    go_ret2
    exact ⟨rfl, 0, rfl⟩
  have hm' : (m == 0) = false := by simpa using hm
  by_cases hb : 2 * m < e
  · have r1 : dec e t m = (0, 24) := by simp [dec, he, hb]
    rw [r1]; clear r1
    go_enter Try.func7, Try.ntmps7
    go_wp2_with (go_at_call 17; refine (hcon _).mono ?_; rintro e w' ⟨rfl, rfl⟩)
    go_ret2
    exact ⟨rfl, 0, rfl⟩
  obtain ⟨q0, q1, q2, q3⟩ := dec_low t m t0 (by omega)
  have r0 : dec e t m = if t + m < t + m - (t + m) % (2 * m) + e - 1 then (if t + m - (t + m) % (2 * m) + e - 1 ≤ 2 * m then (0, 24) else (t + m - (t + m) % (2 * m) + e - 1 - 2 * m, 0)) else if t + m - (t + m) % (2 * m) + e - 1 = 0 then (0, 24) else (t + m - (t + m) % (2 * m) + e - 1, 0) := by
    simp [dec, he, hb, hm, q3]
  rw [r0]; clear r0 q3
  have hdiv := fun w => div64 (t + m) (2 * m) w (by omega) (by omega) (by omega) (by omega)
  generalize (t + m) / (2 * m) = q at *
  generalize (t + m) % (2 * m) = r at *
  have a1 := fun w => add64 t m 0 t0 m0 (by omega) (by omega) w
  have a2 := fun w => sub64 (t + m) r 0 (by omega) (by omega) (by omega) (by omega) (by omega) (by omega) w
  have a3 := fun w => add64 (t + m - r) (e - 1) 0 (by omega) (by omega) (by omega) (by omega) w
  have a4 := fun w => sub64 (t + m - r + (e - 1)) (2 * m) 0 (by omega) (by omega) (by omega) (by omega) (by omega) (by omega) w
  rw [show (t + m + 0) % 18446744073709551616 = t + m from by omega, show (t + m + 0) / 18446744073709551616 = 0 from by omega] at a1
  rw [show (t + m - r - 0) % 18446744073709551616 = t + m - r from by omega, if_neg (by omega)] at a2
  rw [show (t + m - r + (e - 1) + 0) % 18446744073709551616 = t + m - r + (e - 1) from by omega, show (t + m - r + (e - 1) + 0) / 18446744073709551616 = 0 from by omega] at a3
  have n1 : 1 ≤ 2 * m := by omega
  by_cases g1 : t + m < t + m - r + (e - 1)
  · by_cases g2 : t + m - r + (e - 1) < 2 * m
    · rw [if_pos (by omega), if_pos (by omega)]; clear a4
      go_enter Try.func7, Try.ntmps7
      go_wp2_with (first | (go_at_call 17; refine (hcon _).mono ?_; rintro e w' ⟨rfl, rfl⟩) | (go_at_call 19; refine (hdiv _).mono ?_; rintro e w' ⟨rfl, n, rfl⟩))
      go_ret2
      exact ⟨rfl, _, rfl⟩
    · rw [if_pos (by omega)]
      rw [show (t + m - r + (e - 1) - 2 * m - 0) % 18446744073709551616 = t + m - r + (e - 1) - 2 * m from by omega, if_neg (by omega)] at a4
      by_cases g3 : t + m - r + (e - 1) = 2 * m
      · rw [if_pos (by omega)]
        have z : ((t + m - r + (e - 1) - 2 * m) == 0) = true := by rw [beq_iff_eq]; omega
        have H := Lib.hid g3; clear g3
        go_enter Try.func7, Try.ntmps7
        go_wp2_with (first | (go_at_call 17; refine (hcon _).mono ?_; rintro e w' ⟨rfl, rfl⟩) | (go_at_call 19; refine (hdiv _).mono ?_; rintro e w' ⟨rfl, n, rfl⟩))
        go_ret2
        exact ⟨rfl, _, rfl⟩
      · rw [if_neg (by omega)]
        have z : ((t + m - r + (e - 1) - 2 * m) == 0) = false := by rw [beq_eq_false_iff_ne]; omega
        go_enter Try.func7, Try.ntmps7
        go_wp2_with (first | (go_at_call 17; refine (hcon _).mono ?_; rintro e w' ⟨rfl, rfl⟩) | (go_at_call 19; refine (hdiv _).mono ?_; rintro e w' ⟨rfl, n, rfl⟩))
        go_ret2
        exact ⟨ret_ii (by show t + m - r + (e - 1) - 2 * m = t + m - r + e - 1 - 2 * m; omega) rfl, _, rfl⟩
  · rw [if_neg (by omega)]; clear a4
    by_cases g3 : t + m - r + (e - 1) = 0
    · rw [if_pos (by omega)]
      have z : ((t + m - r + (e - 1)) == 0) = true := by rw [beq_iff_eq]; omega
      have H := Lib.hid g3; clear g3
      go_enter Try.func7, Try.ntmps7
      go_wp2_with (first | (go_at_call 17; refine (hcon _).mono ?_; rintro e w' ⟨rfl, rfl⟩) | (go_at_call 19; refine (hdiv _).mono ?_; rintro e w' ⟨rfl, n, rfl⟩))
      go_ret2
      exact ⟨rfl, _, rfl⟩
    · rw [if_neg (by omega)]
      have z : ((t + m - r + (e - 1)) == 0) = false := by rw [beq_eq_false_iff_ne]; omega
      go_enter Try.func7, Try.ntmps7
      go_wp2_with (first | (go_at_call 17; refine (hcon _).mono ?_; rintro e w' ⟨rfl, rfl⟩) | (go_at_call 19; refine (hdiv _).mono ?_; rintro e w' ⟨rfl, n, rfl⟩))
      go_ret2
      exact ⟨ret_ii (by show t + m - r + (e - 1) = t + m - r + e - 1; omega) rfl, _, rfl⟩
end Go.Proofs.Ytkfpcihkibnbnaa.Q
