/- The walks of the three laws of qtab: each returns true. Conditions: the arguments fit their kinds. -/
import Derived.Test.YtkfpcihkibnbnaaQc
import Derived.IntWalk
import Derived.LoopN
namespace Go.Proofs.Ytkfpcihkibnbnaa.Q
open Go.ChangeShapes Go.WideShapes Go.ChangeAt Go.RowKit
open Go.Proofs.Ytkfpcihkibnbnaa.M (Frm New Up)

theorem rel_lt (b i : Int) (i0 : 0 ≤ i) : (rel b i).2 = true → (rel b i).1 < b := by
  unfold rel; split <;> simp; omega
theorem post_ge (b i : Int) (i0 : 0 ≤ i) : (post b i).2 = true → b ≤ (post b i).1 := by
  unfold post; split <;> simp; omega

set_option maxRecDepth 100000 in
set_option maxHeartbeats 1000000 in
theorem places_walk (b i : Int) (w : World) (w0 : (Lit.int .u64 b).wf = true) (w1 : (Lit.int .u64 i).wf = true) :
    Calls Try.prog 4 #[.int .u64 b, .int .u64 i] w fun e w' => e = .returned (.bool true) ∧ Below w.heap.size w w' := by
  have bd0 := bounds_u64 w0
  have bd1 := bounds_u64 w1
  have c1 := fun w => rel_any b i w (by omega) (by omega) (by omega) (by omega)
  have c2 := fun w => rrel_any b i w (by omega) (by omega) (by omega) (by omega)
  have c3 := fun w => post_any b i w (by omega) (by omega) (by omega) (by omega)
  have c4 := fun w => rpost_any b i w (by omega) (by omega) (by omega) (by omega)
  have hr := rel_lt b i (by omega)
  have hp := post_ge b i (by omega)
  generalize (rel b i).1 = r at *
  generalize (rel b i).2 = rb at *
  generalize (post b i).1 = p at *
  generalize (post b i).2 = pb at *
  clear w0 w1
  cases rb <;> cases pb <;> simp only [forall_const, Bool.false_eq_true, false_implies] at hr hp
  all_goals
    go_enter Try.func4, Try.ntmps4
    go_wp2_with (first | (go_at_call 6; refine (known_any _).mono ?_; rintro e w' ⟨rfl, hF⟩) | (go_at_call 11; refine (c1 _).mono ?_; rintro e w' ⟨rfl, rfl⟩) | (go_at_call 12; refine (c2 _).mono ?_; rintro e w' ⟨rfl, rfl⟩) | (go_at_call 13; refine (c3 _).mono ?_; rintro e w' ⟨rfl, rfl⟩) | (go_at_call 14; refine (c4 _).mono ?_; rintro e w' ⟨rfl, rfl⟩))
    go_ret
    exact ⟨rfl, hF.below⟩

theorem wraps_u64 (n : Int) (h₀ : 0 ≤ n) (h₁ : n < 2 ^ 64) : IntKind.u64.wrap n = n := IntWalk.u64_in n (by omega)
theorem and_maxvar (x : Int) (h0 : 0 ≤ x) (h1 : x ≤ 18446744073709551615) : bits .and .u64 x 4611686018427387903 = x % 4611686018427387904 :=
  bits_mask .u64 64 (by decide) wraps_u64 62 (by decide) x h0 (by omega)

theorem wrap_u64 (n : Int) : IntKind.u64.wrap n = n % 18446744073709551616 := by simp [IntKind.wrap, IntKind.bits, IntKind.signed]

/-- a count within its window is told again -/
theorem dec_enc (t m x : Int) (m0 : 1 ≤ m) (x0 : 0 ≤ x) (x1 : x < 2 * m) (hb : 1 ≤ t + m - x) : dec (enc (t + m - x) m) t m = (t + m - x, 0) := by
  have h := Int.mul_ediv_add_emod (t + m) (2 * m)
  have h1 : (t + m) / (2 * m) * (2 * m) = 2 * m * ((t + m) / (2 * m)) := Int.mul_comm _ _
  have hr0 : 0 ≤ (t + m) % (2 * m) := Int.emod_nonneg _ (by omega)
  have hr1 : (t + m) % (2 * m) < 2 * m := Int.emod_lt_of_pos _ (by omega)
  have q0 : 0 ≤ (t + m) / (2 * m) := Int.ediv_nonneg (by omega) (by omega)
  have p0 : 0 ≤ 2 * m * ((t + m) / (2 * m)) := Int.mul_nonneg (by omega) q0
  have e1 : enc (t + m - x) m = (t + m - x) % (2 * m) + 1 := by unfold enc; rw [if_neg (by omega)]
  have b1 : (t + m - x) % (2 * m) < 2 * m := Int.emod_lt_of_pos _ (by omega)
  have b0 : 0 ≤ (t + m - x) % (2 * m) := Int.emod_nonneg _ (by omega)
  rw [e1]
  unfold dec
  rw [if_neg (by omega), if_neg (by omega), h1]
  generalize hq : (t + m) / (2 * m) = q at *
  generalize (t + m) % (2 * m) = r at *
  by_cases hx : x ≤ r
  · have e2 : (t + m - x) % (2 * m) = r - x := by
      rw [show t + m - x = (r - x) + (2 * m) * q from by omega, Int.add_mul_emod_self_left]
      exact Int.emod_eq_of_lt (by omega) (by omega)
    rw [e2]
    simp only
    rw [if_neg (by omega), if_neg (by omega)]
    congr 1
    omega
  · have e2 : (t + m - x) % (2 * m) = 2 * m + r - x := by
      rw [show t + m - x = (2 * m + r - x) + (2 * m) * (q - 1) from by rw [Int.mul_sub]; omega, Int.add_mul_emod_self_left]
      exact Int.emod_eq_of_lt (by omega) (by omega)
    rw [e2]
    simp only
    rw [if_pos (by omega), if_neg (by omega)]
    congr 1
    omega

set_option maxRecDepth 100000 in
set_option maxHeartbeats 2000000 in
theorem counts_walk (c e t a : Int) (w : World) (w0 : (Lit.int .u64 c).wf = true) (w1 : (Lit.int .u64 e).wf = true) (w2 : (Lit.int .u64 t).wf = true) (w3 : (Lit.int .i64 a).wf = true) :
    Calls Try.prog 3 #[.int .u64 c, .int .u64 e, .int .u64 t, .int .i64 a] w fun e w' => e = .returned (.bool true) ∧ Below w.heap.size w w' := by
  have bd0 := bounds_u64 w0
  have bd1 := bounds_u64 w1
  have bd2 := bounds_u64 w2
  have bd3 := bounds_i64 w3
  clear w0 w1 w2 w3
  have hand := and_maxvar t (by omega) (by omega)
  obtain ⟨T, hT⟩ : ∃ T, T = t % 4611686018427387904 := ⟨_, rfl⟩
  rw [← hT] at hand
  have T0 : 0 ≤ T := by omega
  have T1 : T ≤ 4611686018427387903 := by omega
  clear hT
  have hE : ∀ c w, 0 ≤ c → c ≤ 18446744073709551615 → Calls Try.prog 9 #[.int .u64 c, .int .i64 a] w fun e w' => e = .returned (.int .u64 (enc c (most a))) ∧ w = w' := fun c w h1 h2 => enc_any c a w h1 h2 (by omega) (by omega)
  have hE2 : ∀ c w, 0 ≤ c → c ≤ 18446744073709551615 → Calls Try.prog 10 #[.int .u64 c, .int .i64 a] w fun e w' => e = .returned (.int .u64 (enc c (most a))) ∧ w = w' := fun c w h1 h2 => renc_any c a w h1 h2 (by omega) (by omega)
  have hD : ∀ e w, 0 ≤ e → e ≤ 18446744073709551615 → Calls Try.prog 7 #[.int .u64 e, .int .u64 T, .int .i64 a] w fun x w' => x = .returned (.tuple #[.int .u64 (dec e T (most a)).1, .int .i64 (dec e T (most a)).2]) ∧ ∃ n, w' = w.drewN n :=
    fun e w h1 h2 => dec_any e T a w h1 h2 T0 (by omega) (by omega) (by omega)
  have hD2 : ∀ e w, 0 ≤ e → e ≤ 18446744073709551615 → Calls Try.prog 8 #[.int .u64 e, .int .u64 T, .int .i64 a] w fun x w' => x = .returned (.tuple #[.int .u64 (dec e T (most a)).1, .int .i64 (dec e T (most a)).2]) ∧ w = w' :=
    fun e w h1 h2 => rdec_any e T a w h1 h2 T0 (by omega) (by omega) (by omega)
  obtain ⟨m0, m1⟩ := most_bd a (by omega)
  have hmd : most a = max a 0 / 32 := rfl
  generalize most a = m at *
  by_cases ha : a < 0
  · obtain rfl : m = 0 := by omega
    clear hmd
    go_enter Try.func3, Try.ntmps3
    go_wp2_with (first | (go_at_call 6; refine (known_any _).mono ?_; rintro e w' ⟨rfl, hF⟩) | fail)
    refine wp_loop_rounds 3 ?_
    rw [rounds_succ]
    go_wp2_with (first | (go_at_call 7; refine (hD _ _ (by omega) (by omega)).mono ?_; rintro e w' ⟨rfl, n, rfl⟩) | (go_at_call 8; refine (hD2 _ _ (by omega) (by omega)).mono ?_; rintro e w' ⟨rfl, rfl⟩) | (go_at_call 9; refine (hE _ _ (by omega) (by omega)).mono ?_; rintro e w' ⟨rfl, rfl⟩) | (go_at_call 10; refine (hE2 _ _ (by omega) (by omega)).mono ?_; rintro e w' ⟨rfl, rfl⟩) | fail)
    rw [rounds_succ]
    go_wp2_with (first | (go_at_call 7; refine (hD _ _ (by omega) (by omega)).mono ?_; rintro e w' ⟨rfl, n, rfl⟩) | (go_at_call 8; refine (hD2 _ _ (by omega) (by omega)).mono ?_; rintro e w' ⟨rfl, rfl⟩) | (go_at_call 9; refine (hE _ _ (by omega) (by omega)).mono ?_; rintro e w' ⟨rfl, rfl⟩) | (go_at_call 10; refine (hE2 _ _ (by omega) (by omega)).mono ?_; rintro e w' ⟨rfl, rfl⟩) | fail)
    rw [rounds_succ]
    go_wp2_with (first | (go_at_call 7; refine (hD _ _ (by omega) (by omega)).mono ?_; rintro e w' ⟨rfl, n, rfl⟩) | (go_at_call 8; refine (hD2 _ _ (by omega) (by omega)).mono ?_; rintro e w' ⟨rfl, rfl⟩) | (go_at_call 9; refine (hE _ _ (by omega) (by omega)).mono ?_; rintro e w' ⟨rfl, rfl⟩) | (go_at_call 10; refine (hE2 _ _ (by omega) (by omega)).mono ?_; rintro e w' ⟨rfl, rfl⟩) | fail)
    go_ret
    exact ⟨rfl, ((((hF.alloc Up.new _).drewN _)).below)⟩
  · have hq : a / 32 = m := by omega
    have HQ := Lib.hid hmd
    clear hmd
    by_cases hm : m = 0
    · subst hm
      go_enter Try.func3, Try.ntmps3
      go_wp2_with (first | (go_at_call 6; refine (known_any _).mono ?_; rintro e w' ⟨rfl, hF⟩) | fail)
      refine wp_loop_rounds 3 ?_
      rw [rounds_succ]
      go_wp2_with (first | (go_at_call 7; refine (hD _ _ (by omega) (by omega)).mono ?_; rintro e w' ⟨rfl, n, rfl⟩) | (go_at_call 8; refine (hD2 _ _ (by omega) (by omega)).mono ?_; rintro e w' ⟨rfl, rfl⟩) | (go_at_call 9; refine (hE _ _ (by omega) (by omega)).mono ?_; rintro e w' ⟨rfl, rfl⟩) | (go_at_call 10; refine (hE2 _ _ (by omega) (by omega)).mono ?_; rintro e w' ⟨rfl, rfl⟩) | fail)
      rw [rounds_succ]
      go_wp2_with (first | (go_at_call 7; refine (hD _ _ (by omega) (by omega)).mono ?_; rintro e w' ⟨rfl, n, rfl⟩) | (go_at_call 8; refine (hD2 _ _ (by omega) (by omega)).mono ?_; rintro e w' ⟨rfl, rfl⟩) | (go_at_call 9; refine (hE _ _ (by omega) (by omega)).mono ?_; rintro e w' ⟨rfl, rfl⟩) | (go_at_call 10; refine (hE2 _ _ (by omega) (by omega)).mono ?_; rintro e w' ⟨rfl, rfl⟩) | fail)
      rw [rounds_succ]
      go_wp2_with (first | (go_at_call 7; refine (hD _ _ (by omega) (by omega)).mono ?_; rintro e w' ⟨rfl, n, rfl⟩) | (go_at_call 8; refine (hD2 _ _ (by omega) (by omega)).mono ?_; rintro e w' ⟨rfl, rfl⟩) | (go_at_call 9; refine (hE _ _ (by omega) (by omega)).mono ?_; rintro e w' ⟨rfl, rfl⟩) | (go_at_call 10; refine (hE2 _ _ (by omega) (by omega)).mono ?_; rintro e w' ⟨rfl, rfl⟩) | fail)
      go_ret
      exact ⟨rfl, ((((hF.alloc Up.new _).drewN _)).below)⟩
    · have hm1 : 1 ≤ m := by omega
      have hm' : (m == 0) = false := by rw [beq_eq_false_iff_ne]; exact hm
      have hx0 : 0 ≤ c % (2 * m) := Int.emod_nonneg _ (by omega)
      have hx1 : c % (2 * m) < 2 * m := Int.emod_lt_of_pos _ (by omega)
      have n2 : ¬ 2 * m = 0 := by omega
      have hde := dec_enc T m (c % (2 * m)) hm1 hx0 hx1
      by_cases g1 : T + m < c % (2 * m)
      · obtain ⟨b, hb⟩ : ∃ b, b = T + m - c % (2 * m) + 18446744073709551616 := ⟨_, rfl⟩
        have hw : IntKind.u64.wrap (T + m - c % (2 * m)) = b := by
          rw [wrap_u64]; omega
        have hb1 : T + m < b := by omega
        have hb2 : b ≤ 18446744073709551615 := by omega
        have hb3 : (b == 0) = false := by rw [beq_eq_false_iff_ne]; omega
        clear hb hde
        go_enter Try.func3, Try.ntmps3
        go_wp2_with (first | (go_at_call 6; refine (known_any _).mono ?_; rintro e w' ⟨rfl, hF⟩) | fail)
        refine wp_loop_rounds 3 ?_
        rw [rounds_succ]
        go_wp2_with (first | (go_at_call 7; refine (hD _ _ (by omega) (by omega)).mono ?_; rintro e w' ⟨rfl, n, rfl⟩) | (go_at_call 8; refine (hD2 _ _ (by omega) (by omega)).mono ?_; rintro e w' ⟨rfl, rfl⟩) | (go_at_call 9; refine (hE _ _ (by omega) (by omega)).mono ?_; rintro e w' ⟨rfl, rfl⟩) | (go_at_call 10; refine (hE2 _ _ (by omega) (by omega)).mono ?_; rintro e w' ⟨rfl, rfl⟩) | fail)
        rw [rounds_succ]
        go_wp2_with (first | (go_at_call 7; refine (hD _ _ (by omega) (by omega)).mono ?_; rintro e w' ⟨rfl, n, rfl⟩) | (go_at_call 8; refine (hD2 _ _ (by omega) (by omega)).mono ?_; rintro e w' ⟨rfl, rfl⟩) | (go_at_call 9; refine (hE _ _ (by omega) (by omega)).mono ?_; rintro e w' ⟨rfl, rfl⟩) | (go_at_call 10; refine (hE2 _ _ (by omega) (by omega)).mono ?_; rintro e w' ⟨rfl, rfl⟩) | fail)
        rw [rounds_succ]
        go_wp2_with (first | (go_at_call 7; refine (hD _ _ (by omega) (by omega)).mono ?_; rintro e w' ⟨rfl, n, rfl⟩) | (go_at_call 8; refine (hD2 _ _ (by omega) (by omega)).mono ?_; rintro e w' ⟨rfl, rfl⟩) | (go_at_call 9; refine (hE _ _ (by omega) (by omega)).mono ?_; rintro e w' ⟨rfl, rfl⟩) | (go_at_call 10; refine (hE2 _ _ (by omega) (by omega)).mono ?_; rintro e w' ⟨rfl, rfl⟩) | fail)
        go_ret
        exact ⟨rfl, ((((hF.alloc Up.new _).drewN _)).below)⟩
      · by_cases g2 : T + m - c % (2 * m) = 0
        · have hb3 : ((T + m - c % (2 * m)) == 0) = true := by rw [beq_iff_eq]; exact g2
          clear hde g2
          go_enter Try.func3, Try.ntmps3
          go_wp2_with (first | (go_at_call 6; refine (known_any _).mono ?_; rintro e w' ⟨rfl, hF⟩) | fail)
          refine wp_loop_rounds 3 ?_
          rw [rounds_succ]
          go_wp2_with (first | (go_at_call 7; refine (hD _ _ (by omega) (by omega)).mono ?_; rintro e w' ⟨rfl, n, rfl⟩) | (go_at_call 8; refine (hD2 _ _ (by omega) (by omega)).mono ?_; rintro e w' ⟨rfl, rfl⟩) | (go_at_call 9; refine (hE _ _ (by omega) (by omega)).mono ?_; rintro e w' ⟨rfl, rfl⟩) | (go_at_call 10; refine (hE2 _ _ (by omega) (by omega)).mono ?_; rintro e w' ⟨rfl, rfl⟩) | fail)
          rw [rounds_succ]
          go_wp2_with (first | (go_at_call 7; refine (hD _ _ (by omega) (by omega)).mono ?_; rintro e w' ⟨rfl, n, rfl⟩) | (go_at_call 8; refine (hD2 _ _ (by omega) (by omega)).mono ?_; rintro e w' ⟨rfl, rfl⟩) | (go_at_call 9; refine (hE _ _ (by omega) (by omega)).mono ?_; rintro e w' ⟨rfl, rfl⟩) | (go_at_call 10; refine (hE2 _ _ (by omega) (by omega)).mono ?_; rintro e w' ⟨rfl, rfl⟩) | fail)
          rw [rounds_succ]
          go_wp2_with (first | (go_at_call 7; refine (hD _ _ (by omega) (by omega)).mono ?_; rintro e w' ⟨rfl, n, rfl⟩) | (go_at_call 8; refine (hD2 _ _ (by omega) (by omega)).mono ?_; rintro e w' ⟨rfl, rfl⟩) | (go_at_call 9; refine (hE _ _ (by omega) (by omega)).mono ?_; rintro e w' ⟨rfl, rfl⟩) | (go_at_call 10; refine (hE2 _ _ (by omega) (by omega)).mono ?_; rintro e w' ⟨rfl, rfl⟩) | fail)
          go_ret
          exact ⟨rfl, ((((hF.alloc Up.new _).drewN _)).below)⟩
        · have hb3 : ((T + m - c % (2 * m)) == 0) = false := by rw [beq_eq_false_iff_ne]; exact g2
          obtain ⟨hen0, hen1⟩ := enc_bd (T + m - c % (2 * m)) m (by omega) (by omega)
          have hen2 := hen1 (by omega)
          have hde' := hde (by omega)
          clear hde g2 hen1
          go_enter Try.func3, Try.ntmps3
          go_wp2_with (first | (go_at_call 6; refine (known_any _).mono ?_; rintro e w' ⟨rfl, hF⟩) | fail)
          refine wp_loop_rounds 3 ?_
          rw [rounds_succ]
          go_wp2_with (first | (go_at_call 7; refine (hD _ _ (by omega) (by omega)).mono ?_; rintro e w' ⟨rfl, n, rfl⟩) | (go_at_call 8; refine (hD2 _ _ (by omega) (by omega)).mono ?_; rintro e w' ⟨rfl, rfl⟩) | (go_at_call 9; refine (hE _ _ (by omega) (by omega)).mono ?_; rintro e w' ⟨rfl, rfl⟩) | (go_at_call 10; refine (hE2 _ _ (by omega) (by omega)).mono ?_; rintro e w' ⟨rfl, rfl⟩) | fail)
          rw [rounds_succ]
          go_wp2_with (first | (go_at_call 7; refine (hD _ _ (by omega) (by omega)).mono ?_; rintro e w' ⟨rfl, n, rfl⟩) | (go_at_call 8; refine (hD2 _ _ (by omega) (by omega)).mono ?_; rintro e w' ⟨rfl, rfl⟩) | (go_at_call 9; refine (hE _ _ (by omega) (by omega)).mono ?_; rintro e w' ⟨rfl, rfl⟩) | (go_at_call 10; refine (hE2 _ _ (by omega) (by omega)).mono ?_; rintro e w' ⟨rfl, rfl⟩) | fail)
          rw [rounds_succ]
          go_wp2_with (first | (go_at_call 7; refine (hD _ _ (by omega) (by omega)).mono ?_; rintro e w' ⟨rfl, n, rfl⟩) | (go_at_call 8; refine (hD2 _ _ (by omega) (by omega)).mono ?_; rintro e w' ⟨rfl, rfl⟩) | (go_at_call 9; refine (hE _ _ (by omega) (by omega)).mono ?_; rintro e w' ⟨rfl, rfl⟩) | (go_at_call 10; refine (hE2 _ _ (by omega) (by omega)).mono ?_; rintro e w' ⟨rfl, rfl⟩) | fail)
          go_ret
          exact ⟨rfl, ((((hF.alloc Up.new _).drewN _)).below)⟩
end Go.Proofs.Ytkfpcihkibnbnaa.Q
