/- Qt -/
import Derived.Test.YtdgggjeiflllhaaZyMem
import Derived.Deep.QuietTactic
import Derived.BigQuiet
import Derived.Lib.Hide
import Derived.Test.YtdgggjeiflllhaaZyDecp
import Derived.Test.YtdgggjeiflllhaaZyT3

namespace Go.Proofs.Ytdgggjeiflllhaa.M
open Go.ChangeShapes Go.WideShapes Go.ChangeAt Go.RowKit
theorem add64 (x y c : Int) (hx : 0 ≤ x) (hy : 0 ≤ y) (hc0 : 0 ≤ c) (hc : c ≤ 1) (w : World) :
    (callFunc 101 #[.int .u64 x, .int .u64 y, .int .u64 c]).run Try.prog w =
      .ok (.value (.tuple #[.int .u64 ((x + y + c) % 18446744073709551616), .int .u64 ((x + y + c) / 18446744073709551616)])) w := by
  rw [run_callFunc_extern (fn := Try.f101) Try.func101 (by kernel_rfl) (by kernel_rfl) (by kernel_rfl) (e := add64Entry) (by kernel_rfl), run_add64 x y c hx hy hc0 hc]
  rfl
def sub64Entry : Array Value → Sem Value := fun args => do
  let (x, y, b) ← Extern.MathBitsCarry.three "Sub64" args
  pure (Extern.MathBitsCarry.pair ((x + Extern.MathBitsCarry.m64 - y - b) % Extern.MathBitsCarry.m64) (if x < y + b then 1 else 0))
theorem run_sub64 {P : Program} (x y b : Int) (hx : 0 ≤ x) (hx1 : x < 18446744073709551616) (hy : 0 ≤ y) (hy1 : y < 18446744073709551616) (hc0 : 0 ≤ b) (hc : b ≤ 1) (w : World) :
    (sub64Entry #[.int .u64 x, .int .u64 y, .int .u64 b]).run P w =
      .ok (.tuple #[.int .u64 ((x - y - b) % 18446744073709551616), .int .u64 (if x < y + b then 1 else 0)]) w := by
  have key : ∀ k : Nat, k ≤ 1 → (sub64Entry #[.int .u64 x, .int .u64 y, .int .u64 (k : Int)]).run P w =
      .ok (Extern.MathBitsCarry.pair ((x.toNat + Extern.MathBitsCarry.m64 - y.toNat - k) % Extern.MathBitsCarry.m64) (if x.toNat < y.toNat + k then 1 else 0)) w := by
    intro k hk
    have : k = 0 ∨ k = 1 := by omega
    rcases this with rfl | rfl <;> rfl
  obtain ⟨k, rfl⟩ := Int.eq_ofNat_of_zero_le hc0
  rw [key k (by omega)]
  obtain ⟨X, rfl⟩ := Int.eq_ofNat_of_zero_le hx
  obtain ⟨Y, rfl⟩ := Int.eq_ofNat_of_zero_le hy
  simp only [Extern.MathBitsCarry.pair, Extern.MathBitsCarry.m64, Int.toNat_natCast]
  congr 4
  · simp; omega
  · congr 1
    by_cases h : X < Y + k
    · rw [if_pos h, if_pos (by omega)]; rfl
    · rw [if_neg h, if_neg (by omega)]; rfl
theorem sub64 (x y c : Int) (hx : 0 ≤ x) (hx1 : x < 18446744073709551616) (hy : 0 ≤ y) (hy1 : y < 18446744073709551616) (hc0 : 0 ≤ c) (hc : c ≤ 1) (w : World) :
    (callFunc 130 #[.int .u64 x, .int .u64 y, .int .u64 c]).run Try.prog w =
      .ok (.value (.tuple #[.int .u64 ((x - y - c) % 18446744073709551616), .int .u64 (if x < y + c then 1 else 0)])) w := by
  rw [run_callFunc_extern (fn := Try.f130) Try.func130 (by kernel_rfl) (by kernel_rfl) (by kernel_rfl) (e := sub64Entry) (by kernel_rfl), run_sub64 x y c hx hx1 hy hy1 hc0 hc]
  rfl
def qmost (c : Int) : Int := max c 0 / 32
theorem qmost_bd (a : Int) (h1 : a ≤ 9223372036854775807) : 0 ≤ qmost a ∧ qmost a ≤ 288230376151711743 := by unfold qmost; omega
set_option maxHeartbeats 400000 in
theorem qmost_any (a : Int) (w : World) (h0 : -9223372036854775808 ≤ a) (h1 : a ≤ 9223372036854775807) :
  Calls Try.prog 123 #[.int .i64 a] w fun e w' => e = .returned (.int .u64 (qmost a)) ∧ w = w' := by
  go_enter Try.func123, Try.ntmps123
  go_wp2
  all_goals go_ret
  all_goals exact ⟨ret_int (by unfold qmost; omega), rfl⟩
set_option maxHeartbeats 400000 in
theorem rqmost_any (a : Int) (w : World) (h0 : -9223372036854775808 ≤ a) (h1 : a ≤ 9223372036854775807) :
  Calls Try.prog 114 #[.int .i64 a] w fun e w' => e = .returned (.int .u64 (qmost a)) ∧ w = w' := by
  go_enter Try.func114, Try.ntmps114
  go_wp2
  all_goals go_ret
  all_goals exact ⟨ret_int (by unfold qmost; omega), rfl⟩
def qenc (c m : Int) : Int := if c = 0 ∨ m = 0 then 0 else c % (2 * m) + 1
set_option maxHeartbeats 400000 in
theorem rqenc_any (c a : Int) (w : World) (c0 : 0 ≤ c) (c1 : c ≤ 18446744073709551615) (h0 : -9223372036854775808 ≤ a) (h1 : a ≤ 9223372036854775807) :
  Calls Try.prog 70 #[.int .u64 c, .int .i64 a] w fun e w' => e = .returned (.int .u64 (qenc c (qmost a))) ∧ w = w' := by
  obtain ⟨m0, m1⟩ := qmost_bd a h1
  have hcon := fun w => rqmost_any a w h0 h1
  generalize qmost a = m at *
  by_cases hc : c = 0
  · have e1 : qenc c m = 0 := by simp [qenc, hc]
    rw [e1]; subst hc; clear e1
    go_enter Try.func70, Try.ntmps70
    go_wp2_with (go_at_call 114; refine (hcon _).mono ?_; rintro e w' ⟨rfl, rfl⟩)
    go_ret
    exact ⟨rfl, rfl⟩
  · by_cases hm : m = 0
    · have e1 : qenc c m = 0 := by simp [qenc, hm]
      rw [e1]; subst hm; clear e1
      have hc' : (c == 0) = false := by simpa using hc
      go_enter Try.func70, Try.ntmps70
      go_wp2_with (go_at_call 114; refine (hcon _).mono ?_; rintro e w' ⟨rfl, rfl⟩)
      go_ret
      exact ⟨rfl, rfl⟩
    · have e1 : qenc c m = c % (2 * m) + 1 := by simp [qenc, hm, hc]
      rw [e1]; clear e1
      have hb : 0 ≤ c % (2 * m) := Int.emod_nonneg _ (by omega)
      have hb2 : c % (2 * m) < (2 * m) := Int.emod_lt_of_pos _ (by omega)
      have hc' : (c == 0) = false := by simpa using hc
      have hm' : (m == 0) = false := by simpa using hm
      have hm2 : 0 < 2 * m := by omega
      have hm3 : ¬ (2 * m = 0) := by omega
      go_enter Try.func70, Try.ntmps70
      go_wp2_with (go_at_call 114; refine (hcon _).mono ?_; rintro e w' ⟨rfl, rfl⟩)
      go_ret
      exact ⟨rfl, rfl⟩
def qrel (b i : Int) : Int × Bool := if b ≤ i then (0, false) else (b - 1 - i, true)
def qpost (b i : Int) : Int × Bool := if b + i ≤ 4611686018427387903 then (b + i, true) else (0, false)
set_option maxHeartbeats 400000 in
theorem qrel_any (b i : Int) (w : World) (b0 : 0 ≤ b) (b1 : b ≤ 18446744073709551615) (i0 : 0 ≤ i) (i1 : i ≤ 18446744073709551615) :
  Calls Try.prog 106 #[.int .u64 b, .int .u64 i] w fun e w' => e = .returned (.tuple #[.int .u64 (qrel b i).1, .bool (qrel b i).2]) ∧ w = w' := by
  go_enter Try.func106, Try.ntmps106
  go_wp2
  all_goals go_ret2
  · exact ⟨ret_ib (by unfold qrel; rw [if_pos (by omega)]) (by unfold qrel; rw [if_pos (by omega)]), rfl⟩
  · exact ⟨ret_ib (by unfold qrel; rw [if_neg (by omega)]) (by unfold qrel; rw [if_neg (by omega)]), rfl⟩
set_option maxHeartbeats 400000 in
theorem qpost_any (b i : Int) (w : World) (b0 : 0 ≤ b) (b1 : b ≤ 18446744073709551615) (i0 : 0 ≤ i) (i1 : i ≤ 18446744073709551615) :
  Calls Try.prog 108 #[.int .u64 b, .int .u64 i] w fun e w' => e = .returned (.tuple #[.int .u64 (qpost b i).1, .bool (qpost b i).2]) ∧ w = w' := by
  have hadd := add64 b i 0 b0 i0 (by omega) (by omega)
  by_cases h1 : b + i < 18446744073709551616
  · have e1 : (b + i + 0) % 18446744073709551616 = b + i := by omega
    have e2 : (b + i + 0) / 18446744073709551616 = 0 := by omega
    simp only [e1, e2] at hadd
    clear e1 e2
    go_enter Try.func108, Try.ntmps108
    go_wp2
    all_goals go_ret2
    · exact ⟨ret_ib (by unfold qpost; rw [if_neg (by omega)]) (by unfold qpost; rw [if_neg (by omega)]), rfl⟩
    · exact ⟨ret_ib (by unfold qpost; rw [if_pos (by omega)]) (by unfold qpost; rw [if_pos (by omega)]), rfl⟩
  · have e1 : (b + i + 0) % 18446744073709551616 = b + i - 18446744073709551616 := by omega
    have e2 : (b + i + 0) / 18446744073709551616 = 1 := by omega
    simp only [e1, e2] at hadd
    clear e1 e2
    go_enter Try.func108, Try.ntmps108
    go_wp2
    all_goals go_ret2
    · exact ⟨ret_ib (by unfold qpost; rw [if_neg (by omega)]) (by unfold qpost; rw [if_neg (by omega)]), rfl⟩
set_option maxHeartbeats 400000 in
theorem div64 (x y : Int) (w : World) (x0 : 0 ≤ x) (x1 : x ≤ 18446744073709551615) (y0 : 1 ≤ y) (y1 : y ≤ 18446744073709551615) :
  Calls Try.prog 129 #[.int .u64 0, .int .u64 x, .int .u64 y] w fun e w' => e = .returned (.tuple #[.int .u64 (x / y), .int .u64 (x % y)]) ∧ ∃ n, w' = w.drewN n := by
  have h1 : (y == 0) = false := by rw [beq_eq_false_iff_ne]; omega
  have h2 : ¬ y = 0 := by omega
  go_enter Try.func129, Try.ntmps129
  go_wp2
  go_quiet (fail)
  go_wp2
  go_ret2
  exact ⟨rfl, _, rfl⟩
def qdec (e t m : Int) : Int × Int :=
  if e = 0 then (0, 0) else
  if m = 0 ∨ 2 * m < e then (0, 24) else
  let c := (t + m) / (2 * m) * (2 * m) + e - 1
  if t + m < c then (if c ≤ 2 * m then (0, 24) else (c - 2 * m, 0)) else if c = 0 then (0, 24) else (c, 0)
theorem qdec_low (t m : Int) (t0 : 0 ≤ t) (m0 : 1 ≤ m) : 0 ≤ (t + m) % (2 * m) ∧ (t + m) % (2 * m) < 2 * m ∧ (t + m) % (2 * m) ≤ t + m ∧ (t + m) / (2 * m) * (2 * m) = t + m - (t + m) % (2 * m) := by
  have h := Int.mul_ediv_add_emod (t + m) (2 * m)
  have h1 : (t + m) / (2 * m) * (2 * m) = 2 * m * ((t + m) / (2 * m)) := Int.mul_comm _ _
  have q0 : 0 ≤ (t + m) / (2 * m) := Int.ediv_nonneg (by omega) (by omega)
  have q2 : 0 ≤ (t + m) / (2 * m) * (2 * m) := Int.mul_nonneg q0 (by omega)
  exact ⟨Int.emod_nonneg _ (by omega), Int.emod_lt_of_pos _ (by omega), by omega, by omega⟩
set_option maxHeartbeats 1000000 in
theorem qdec_any (e t a : Int) (w : World) (e0 : 0 ≤ e) (e1 : e ≤ 18446744073709551615) (t0 : 0 ≤ t) (t1 : t ≤ 4611686018427387904) (h0 : -9223372036854775808 ≤ a) (h1 : a ≤ 9223372036854775807) :
  Calls Try.prog 100 #[.int .u64 e, .int .u64 t, .int .i64 a] w fun x w' => x = .returned (.tuple #[.int .u64 (qdec e t (qmost a)).1, .int .i64 (qdec e t (qmost a)).2]) ∧ ∃ n, w' = w.drewN n := by
  obtain ⟨m0, m1⟩ := qmost_bd a h1
  have hcon := fun w => qmost_any a w h0 h1
  generalize qmost a = m at *
  by_cases he : e = 0
  · have r1 : qdec e t m = (0, 0) := by simp [qdec, he]
    rw [r1]; subst he; clear r1
    go_enter Try.func100, Try.ntmps100
    go_wp2_with (go_at_call 123; refine (hcon _).mono ?_; rintro e w' ⟨rfl, rfl⟩)
    go_ret2
    exact ⟨rfl, 0, rfl⟩
  have he' : (e == 0) = false := by simpa using he
  by_cases hm : m = 0
  · have r1 : qdec e t m = (0, 24) := by simp [qdec, he, hm]
    rw [r1]; subst hm; clear r1
    go_enter Try.func100, Try.ntmps100
    go_wp2_with (go_at_call 123; refine (hcon _).mono ?_; rintro e w' ⟨rfl, rfl⟩)
    go_ret2
    exact ⟨rfl, 0, rfl⟩
  have hm' : (m == 0) = false := by simpa using hm
  by_cases hb : 2 * m < e
  · have r1 : qdec e t m = (0, 24) := by simp [qdec, he, hb]
    rw [r1]; clear r1
    go_enter Try.func100, Try.ntmps100
    go_wp2_with (go_at_call 123; refine (hcon _).mono ?_; rintro e w' ⟨rfl, rfl⟩)
    go_ret2
    exact ⟨rfl, 0, rfl⟩
  obtain ⟨q0, q1, q2, q3⟩ := qdec_low t m t0 (by omega)
  have r0 : qdec e t m = if t + m < t + m - (t + m) % (2 * m) + e - 1 then (if t + m - (t + m) % (2 * m) + e - 1 ≤ 2 * m then (0, 24) else (t + m - (t + m) % (2 * m) + e - 1 - 2 * m, 0)) else if t + m - (t + m) % (2 * m) + e - 1 = 0 then (0, 24) else (t + m - (t + m) % (2 * m) + e - 1, 0) := by
    simp [qdec, he, hb, hm, q3]
  rw [r0]; clear r0 q3
  have hdiv := fun w => div64 (t + m) (2 * m) w (by omega) (by omega) (by omega) (by omega)
  generalize (t + m) / (2 * m) = q at *
  generalize (t + m) % (2 * m) = r at *
  have a1 := fun w => add64 t m 0 t0 m0 (by omega) (by omega) w
  have a2 := fun w => sub64 (t + m) r 0 (by omega) (by omega) (by omega) (by omega) (by omega) (by omega) w
  have a3 := fun w => add64 (t + m - r) (e - 1) 0 (by omega) (by omega) (by omega) (by omega) w
  have a4 := fun w => sub64 (t + m - r + (e - 1)) (2 * m) 0 (by omega) (by omega) (by omega) (by omega) (by omega) (by omega) w
  rw [show (t + m + 0) % 18446744073709551616 = t + m from by omega, show (t + m + 0) / 18446744073709551616 = 0 from by omega] at a1
  rw [show (t + m - r - 0) % 18446744073709551616 = t + m - r from by omega, if_neg (by omega)] at a2
  rw [show (t + m - r + (e - 1) + 0) % 18446744073709551616 = t + m - r + (e - 1) from by omega, show (t + m - r + (e - 1) + 0) / 18446744073709551616 = 0 from by omega] at a3
  have n1 : 1 ≤ 2 * m := by omega
  by_cases g1 : t + m < t + m - r + (e - 1)
  · by_cases g2 : t + m - r + (e - 1) < 2 * m
    · rw [if_pos (by omega), if_pos (by omega)]; clear a4
      go_enter Try.func100, Try.ntmps100
      go_wp2_with (first | (go_at_call 123; refine (hcon _).mono ?_; rintro e w' ⟨rfl, rfl⟩) | (go_at_call 129; refine (hdiv _).mono ?_; rintro e w' ⟨rfl, n, rfl⟩))
      go_ret2
      exact ⟨rfl, _, rfl⟩
    · rw [if_pos (by omega)]
      rw [show (t + m - r + (e - 1) - 2 * m - 0) % 18446744073709551616 = t + m - r + (e - 1) - 2 * m from by omega, if_neg (by omega)] at a4
      by_cases g3 : t + m - r + (e - 1) = 2 * m
      · rw [if_pos (by omega)]
        have z : ((t + m - r + (e - 1) - 2 * m) == 0) = true := by rw [beq_iff_eq]; omega
        have H := Lib.hid g3; clear g3
        go_enter Try.func100, Try.ntmps100
        go_wp2_with (first | (go_at_call 123; refine (hcon _).mono ?_; rintro e w' ⟨rfl, rfl⟩) | (go_at_call 129; refine (hdiv _).mono ?_; rintro e w' ⟨rfl, n, rfl⟩))
        go_ret2
        exact ⟨rfl, _, rfl⟩
      · rw [if_neg (by omega)]
        have z : ((t + m - r + (e - 1) - 2 * m) == 0) = false := by rw [beq_eq_false_iff_ne]; omega
        go_enter Try.func100, Try.ntmps100
        go_wp2_with (first | (go_at_call 123; refine (hcon _).mono ?_; rintro e w' ⟨rfl, rfl⟩) | (go_at_call 129; refine (hdiv _).mono ?_; rintro e w' ⟨rfl, n, rfl⟩))
        go_ret2
        exact ⟨ret_ii (by show t + m - r + (e - 1) - 2 * m = t + m - r + e - 1 - 2 * m; omega) rfl, _, rfl⟩
  · rw [if_neg (by omega)]; clear a4
    by_cases g3 : t + m - r + (e - 1) = 0
    · rw [if_pos (by omega)]
      have z : ((t + m - r + (e - 1)) == 0) = true := by rw [beq_iff_eq]; omega
      have H := Lib.hid g3; clear g3
      go_enter Try.func100, Try.ntmps100
      go_wp2_with (first | (go_at_call 123; refine (hcon _).mono ?_; rintro e w' ⟨rfl, rfl⟩) | (go_at_call 129; refine (hdiv _).mono ?_; rintro e w' ⟨rfl, n, rfl⟩))
      go_ret2
      exact ⟨rfl, _, rfl⟩
    · rw [if_neg (by omega)]
      have z : ((t + m - r + (e - 1)) == 0) = false := by rw [beq_eq_false_iff_ne]; omega
      go_enter Try.func100, Try.ntmps100
      go_wp2_with (first | (go_at_call 123; refine (hcon _).mono ?_; rintro e w' ⟨rfl, rfl⟩) | (go_at_call 129; refine (hdiv _).mono ?_; rintro e w' ⟨rfl, n, rfl⟩))
      go_ret2
      exact ⟨ret_ii (by show t + m - r + (e - 1) = t + m - r + e - 1; omega) rfl, _, rfl⟩
end Go.Proofs.Ytdgggjeiflllhaa.M
namespace Go.Proofs.Ytdgggjeiflllhaa.M
open Go.ChangeShapes Go.WideShapes Go.ChangeAt Go.RowKit
def mostQ (cap : Nat) : Nat := cap / 32
def encQ (c cap : Nat) : Nat := if c = 0 ∨ mostQ cap = 0 then 0 else c % (2 * mostQ cap) + 1
def decQ (e t cap : Nat) : Nat × Nat :=
  if e = 0 then (0, 0) else
  if mostQ cap = 0 ∨ 2 * mostQ cap < e then (0, 24) else
  if t + mostQ cap < (t + mostQ cap) / (2 * mostQ cap) * (2 * mostQ cap) + e - 1 then
    (if (t + mostQ cap) / (2 * mostQ cap) * (2 * mostQ cap) + e - 1 ≤ 2 * mostQ cap then (0, 24) else ((t + mostQ cap) / (2 * mostQ cap) * (2 * mostQ cap) + e - 1 - 2 * mostQ cap, 0))
  else if (t + mostQ cap) / (2 * mostQ cap) * (2 * mostQ cap) + e - 1 = 0 then (0, 24) else ((t + mostQ cap) / (2 * mostQ cap) * (2 * mostQ cap) + e - 1, 0)
def relQ (b i : Nat) : Nat × Bool := if b ≤ i then (0, false) else (b - 1 - i, true)
def postQ (b i : Nat) : Nat × Bool := if b + i ≤ 4611686018427387903 then (b + i, true) else (0, false)
def prefQ (count base cap : Nat) : Bytes := pfx 0 8 (encQ count cap) ++ (if count ≤ base then pfx 0 7 (base - count) else pfx 128 7 (count - base - 1))
def rpfQ (b : Bytes) (total cap : Nat) : Nat × Nat × Nat × Nat :=
  match rdp b 8 with
  | (en, k, e) => if e ≠ 0 then (0, 0, 0, e) else
    match rdp (b.drop k) 7 with
    | (d, n, e) => if e ≠ 0 then (0, 0, 0, e) else
      match decQ en total cap with
      | (count, e) => if e ≠ 0 then (0, 0, 0, e) else
        if 128 ≤ ((b.drop k).headD 0).toNat then
          (if count ≤ d ∨ 4611686018427387903 < count - d - 1 then (0, 0, 0, 24) else (count, count - d - 1, k + n, 0))
        else if 4611686018427387903 < count + d then (0, 0, 0, 24) else (count, count + d, k + n, 0)
theorem qmost_nat (cap : Nat) : qmost (cap : Int) = (mostQ cap : Nat) := by unfold qmost mostQ; omega
theorem qenc_nat (c cap : Nat) : qenc (c : Int) (qmost cap) = (encQ c cap : Nat) := by
  rw [qmost_nat]
  unfold qenc encQ
  generalize mostQ cap = m
  by_cases h : c = 0 ∨ m = 0
  · rw [if_pos h, if_pos (by omega)]; rfl
  · rw [if_neg h, if_neg (by omega)]; push_cast; rfl
theorem qdec_nat (e t cap : Nat) : qdec (e : Int) (t : Int) (qmost cap) = ((((decQ e t cap).1 : Nat) : Int), (((decQ e t cap).2 : Nat) : Int)) := by
  rw [qmost_nat]
  unfold qdec decQ
  generalize mostQ cap = m
  by_cases h0 : e = 0
  · subst h0; rfl
  by_cases h1 : m = 0 ∨ 2 * m < e
  · rw [if_neg (by omega), if_pos (by omega), if_neg h0, if_pos h1]; rfl
  rw [if_neg (by omega), if_neg (by omega), if_neg h0, if_neg h1]
  have hq : ((t : Int) + (m : Int)) / (2 * (m : Int)) * (2 * (m : Int)) = (((t + m) / (2 * m) * (2 * m) : Nat) : Int) := by push_cast; rfl
  simp only [hq]
  generalize (t + m) / (2 * m) * (2 * m) = q
  by_cases h2 : t + m < q + e - 1
  · rw [if_pos (by omega), if_pos h2]
    by_cases h3 : q + e - 1 ≤ 2 * m
    · rw [if_pos (by omega), if_pos h3]; rfl
    · rw [if_neg (by omega), if_neg h3]
      refine Prod.ext ?_ rfl
      show ((q : Int) + (e : Int) - 1 - 2 * (m : Int)) = ((q + e - 1 - 2 * m : Nat) : Int)
      omega
  · rw [if_neg (by omega), if_neg h2]
    by_cases h3 : q + e - 1 = 0
    · rw [if_pos (by omega), if_pos h3]; rfl
    · rw [if_neg (by omega), if_neg h3]
      refine Prod.ext ?_ rfl
      show ((q : Int) + (e : Int) - 1) = ((q + e - 1 : Nat) : Int)
      omega
theorem qrel_nat (b i : Nat) : (qrel (b : Int) (i : Int)).1 = ((relQ b i).1 : Nat) ∧ (qrel (b : Int) (i : Int)).2 = (relQ b i).2 := by
  unfold qrel relQ
  by_cases h : b ≤ i
  · rw [if_pos (by omega), if_pos h]; exact ⟨rfl, rfl⟩
  · rw [if_neg (by omega), if_neg h]; exact ⟨by show (b : Int) - 1 - (i : Int) = ((b - 1 - i : Nat) : Int); omega, rfl⟩
theorem qpost_nat (b i : Nat) : (qpost (b : Int) (i : Int)).1 = ((postQ b i).1 : Nat) ∧ (qpost (b : Int) (i : Int)).2 = (postQ b i).2 := by
  unfold qpost postQ
  by_cases h : b + i ≤ 4611686018427387903
  · rw [if_pos (by omega), if_pos h]; exact ⟨by show (b : Int) + (i : Int) = ((b + i : Nat) : Int); omega, rfl⟩
  · rw [if_neg (by omega), if_neg h]; exact ⟨rfl, rfl⟩
theorem decQ_le (e t cap : Nat) (h : (decQ e t cap).2 = 0) : (decQ e t cap).1 ≤ t + mostQ cap := by
  unfold decQ at h ⊢
  generalize mostQ cap = m at *
  by_cases h0 : e = 0
  · rw [if_pos h0]; exact Nat.zero_le _
  rw [if_neg h0] at h ⊢
  by_cases h1 : m = 0 ∨ 2 * m < e
  · rw [if_pos h1] at h; cases h
  rw [if_neg h1] at h ⊢
  have hq : (t + m) / (2 * m) * (2 * m) ≤ t + m := Nat.div_mul_le_self _ _
  generalize (t + m) / (2 * m) * (2 * m) = q at *
  by_cases h2 : t + m < q + e - 1
  · rw [if_pos h2] at h ⊢
    by_cases h3 : q + e - 1 ≤ 2 * m
    · rw [if_pos h3] at h; cases h
    · rw [if_neg h3]; show q + e - 1 - 2 * m ≤ t + m; omega
  · rw [if_neg h2] at h ⊢
    by_cases h3 : q + e - 1 = 0
    · rw [if_pos h3] at h; cases h
    · rw [if_neg h3]; show q + e - 1 ≤ t + m; omega
end Go.Proofs.Ytdgggjeiflllhaa.M
namespace Go.Proofs.Ytdgggjeiflllhaa.M
open Go.ChangeShapes Go.WideShapes Go.ChangeAt Go.RowKit
def fixE (e : Nat) : Nat := if e = 20 then 20 else 26
def Tb.new (T : Tb) (i : Nat) : Option Fld := if i < T.l.length then T.l[T.l.length - 1 - i]? else none
def Tb.at_ (T : Tb) (i : Nat) : Option Fld := if T.first ≤ i ∧ i < T.n then T.l[i - T.first]? else none
def nameQ (T : Tb) (i : Nat) (fixed : Bool) : Option Bytes := if fixed then (h3tab[i]?).map (·.1) else (T.new i).map (·.1)
def addQ (T : Tb) (f : Fld) (k : Nat) : Nat × Nat × Tb := if fsize f ≤ T.cap then (0, k, T.add f) else (26, 0, T)
def valQ (T : Tb) (nm : Bytes) (r : Bytes) (k : Nat) : Nat × Nat × Tb :=
  match strD (r.drop k) 7 with
  | (v, k2, e) => if e ≠ 0 then (fixE e, 0, T) else addQ T (nm, v) (k + k2)
def insQ (lim : Nat) (T : Tb) (r : Bytes) : Nat × Nat × Tb :=
  let c := (r.headD 0).toNat
  if 128 ≤ c then
    match rdp r 6 with
    | (i, k, e) => if e ≠ 0 then (fixE e, 0, T) else
      match nameQ T i (decide (c / 64 % 2 = 1)) with
      | none => (26, 0, T)
      | some nm => valQ T nm r k
  else if 64 ≤ c then
    match strD r 5 with
    | (nm, k, e) => if e ≠ 0 then (fixE e, 0, T) else valQ T nm r k
  else if 32 ≤ c then
    match rdp r 5 with
    | (n, k, e) => if e ≠ 0 then (fixE e, 0, T) else if lim < n then (26, 0, T) else (0, k, T.resize n)
  else
    match rdp r 5 with
    | (i, k, e) => if e ≠ 0 then (fixE e, 0, T) else
      match T.new i with
      | none => (26, 0, T)
      | some f => addQ T f k
def feedGo (lim : Nat) : Nat → Tb → Bytes → Tb × Bytes × Bool
  | _, T, [] => (T, [], false)
  | 0, T, r => (T, r, false)
  | f + 1, T, c :: r =>
    match insQ lim T (c :: r) with
    | (e, k, T2) => if e = 0 then feedGo lim f T2 ((c :: r).drop k) else if e = 20 then (T, c :: r, false) else (T, c :: r, true)
def entQ (T : Tb) (count : Nat) (p : Nat × Bool) : Option Fld := if p.2 = true ∧ p.1 < count then T.at_ p.1 else none
def lineQ (T : Tb) (count base : Nat) (r : Bytes) : Option (Fld × Nat) :=
  let c := (r.headD 0).toNat
  let num (k : Nat) (f : Nat → Option Fld) : Option (Fld × Nat) := match rdp r k with | (i, n, e) => if e ≠ 0 then none else (f i).map fun x => (x, n)
  let lit (x : Option (Bytes × Nat)) : Option (Fld × Nat) := match x with
    | none => none
    | some (nm, n) => match strD (r.drop n) 7 with | (v, k, e) => if e ≠ 0 then none else some ((nm, v), n + k)
  let nm (x : Option (Fld × Nat)) : Option (Bytes × Nat) := x.map fun y => (y.1.1, y.2)
  if 192 ≤ c then num 6 (fun i => h3tab[i]?)
  else if 128 ≤ c then num 6 (fun i => entQ T count (relQ base i))
  else if 64 ≤ c then (if c / 16 % 2 = 1 then lit (nm (num 4 (fun i => h3tab[i]?))) else lit (nm (num 4 (fun i => entQ T count (relQ base i)))))
  else if 32 ≤ c then lit (match strD r 3 with | (s, k, e) => if e ≠ 0 then none else some (s, k))
  else if 16 ≤ c then num 4 (fun i => entQ T count (postQ base i))
  else lit (nm (num 3 (fun i => entQ T count (postQ base i))))
def linesQ (T : Tb) (count base : Nat) : Nat → List Fld → Bytes → Option (List Fld)
  | _, out, [] => some out
  | 0, _, _ :: _ => none
  | f + 1, out, c :: r =>
    match lineQ T count base (c :: r) with
    | none => none
    | some (x, k) => if 64 < out.length + 1 then none else linesQ T count base f (out ++ [x]) ((c :: r).drop k)
structure Qd where
  t : Tb
  lim : Nat
  blk : Nat
  waits : List Nat
  rest : Bytes
  out : Bytes
  told : Nat
  bad : Bool
def Qd.feed (D : Qd) (b : Bytes) : Nat × Qd :=
  if D.bad then (26, D) else
  match feedGo D.lim (D.rest ++ b).length D.t (D.rest ++ b) with
  | (T, r, x) => (if x then 26 else 0, { D with t := T, rest := r, bad := x })
def Qd.forget (D : Qd) (s : Nat) : Qd := { D with waits := D.waits.filter (fun x => decide (x ≠ s)) }
def Qd.decode (D : Qd) (s : Nat) (b : Bytes) : (List Fld × Nat) × Qd :=
  if D.bad then (([], 26), D) else
  match rpfQ b D.t.n D.lim with
  | (count, base, k, e) => if e ≠ 0 then (([], 26), D) else
    if D.t.n < count then
      (if s ∈ D.waits then (([], 27), D) else if D.blk ≤ D.waits.length then (([], 50), D) else (([], 27), { D with waits := D.waits ++ [s] }))
    else
      match linesQ D.t count base (b.drop k).length [] (b.drop k) with
      | none => (([], 26), D.forget s)
      | some l => ((l, 0), { D.forget s with out := if 0 < count then D.out ++ pfx 128 7 s else D.out, told := if 0 < count then max D.told count else D.told })
def Qd.send (D : Qd) : Bytes × Qd := (if D.told < D.t.n then D.out ++ pfx 0 6 (D.t.n - D.told) else D.out, { D with out := [], told := max D.told D.t.n })
end Go.Proofs.Ytdgggjeiflllhaa.M

