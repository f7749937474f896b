/- The small functions of qtab and of its reference: what each returns, for arguments in range. Conditions: the integers fit their kinds; the totals are below 2^62. -/
import Derived.Test.YtkfpcihkibnbnaaRows
import Derived.WalkKit
import Derived.ProofKit
import Derived.OpenShut
import Derived.Laws.Externs
namespace Go.Proofs.Ytkfpcihkibnbnaa.Q
open Go.ChangeShapes Go.WideShapes Go.ChangeAt Go.RowKit

theorem ret_int {k : IntKind} {a b : Int} (h : a = b) : Ending.returned (.int k a) = .returned (.int k b) := by rw [h]
theorem ret_bool {a b : Bool} (h : a = b) : Ending.returned (.bool a) = .returned (.bool b) := by rw [h]
theorem ret_ib {k : IntKind} {a b : Int} {c d : Bool} (h : a = b) (h2 : c = d) : Ending.returned (.tuple #[.int k a, .bool c]) = .returned (.tuple #[.int k b, .bool d]) := by rw [h, h2]
theorem ret_ii {k l : IntKind} {a b c d : Int} (h : a = b) (h2 : c = d) : Ending.returned (.tuple #[.int k a, .int l c]) = .returned (.tuple #[.int k b, .int l d]) := by rw [h, h2]

/-- bits.Add64 at carry 0 or 1 -/
theorem add64 (x y c : Int) (hx : 0 ≤ x) (hy : 0 ≤ y) (hc0 : 0 ≤ c) (hc : c ≤ 1) (w : World) :
    (callFunc 18 #[.int .u64 x, .int .u64 y, .int .u64 c]).run Try.prog w =
      .ok (.value (.tuple #[.int .u64 ((x + y + c) % 18446744073709551616), .int .u64 ((x + y + c) / 18446744073709551616)])) w := by
  rw [run_callFunc_extern (fn := Try.f18) Try.func18 (by kernel_rfl) (by kernel_rfl) (by kernel_rfl) (e := add64Entry) (by kernel_rfl), run_add64 x y c hx hy hc0 hc]
  rfl
def sub64Entry : Array Value → Sem Value := fun args => do
  let (x, y, b) ← Extern.MathBitsCarry.three "Sub64" args
  pure (Extern.MathBitsCarry.pair ((x + Extern.MathBitsCarry.m64 - y - b) % Extern.MathBitsCarry.m64) (if x < y + b then 1 else 0))
theorem run_sub64 {P : Program} (x y b : Int) (hx : 0 ≤ x) (hx1 : x < 18446744073709551616) (hy : 0 ≤ y) (hy1 : y < 18446744073709551616) (hc0 : 0 ≤ b) (hc : b ≤ 1) (w : World) :
    (sub64Entry #[.int .u64 x, .int .u64 y, .int .u64 b]).run P w =
      .ok (.tuple #[.int .u64 ((x - y - b) % 18446744073709551616), .int .u64 (if x < y + b then 1 else 0)]) w := by
  have key : ∀ k : Nat, k ≤ 1 → (sub64Entry #[.int .u64 x, .int .u64 y, .int .u64 (k : Int)]).run P w =
      .ok (Extern.MathBitsCarry.pair ((x.toNat + Extern.MathBitsCarry.m64 - y.toNat - k) % Extern.MathBitsCarry.m64) (if x.toNat < y.toNat + k then 1 else 0)) w := by
    intro k hk
    have : k = 0 ∨ k = 1 := by omega
    rcases this with rfl | rfl <;> rfl
  obtain ⟨k, rfl⟩ := Int.eq_ofNat_of_zero_le hc0
  rw [key k (by omega)]
  obtain ⟨X, rfl⟩ := Int.eq_ofNat_of_zero_le hx
  obtain ⟨Y, rfl⟩ := Int.eq_ofNat_of_zero_le hy
  simp only [Extern.MathBitsCarry.pair, Extern.MathBitsCarry.m64, Int.toNat_natCast]
  congr 4
  · simp; omega
  · congr 1
    by_cases h : X < Y + k
    · rw [if_pos h, if_pos (by omega)]; rfl
    · rw [if_neg h, if_neg (by omega)]; rfl
theorem sub64 (x y c : Int) (hx : 0 ≤ x) (hx1 : x < 18446744073709551616) (hy : 0 ≤ y) (hy1 : y < 18446744073709551616) (hc0 : 0 ≤ c) (hc : c ≤ 1) (w : World) :
    (callFunc 20 #[.int .u64 x, .int .u64 y, .int .u64 c]).run Try.prog w =
      .ok (.value (.tuple #[.int .u64 ((x - y - c) % 18446744073709551616), .int .u64 (if x < y + c then 1 else 0)])) w := by
  rw [run_callFunc_extern (fn := Try.f20) Try.func20 (by kernel_rfl) (by kernel_rfl) (by kernel_rfl) (e := sub64Entry) (by kernel_rfl), run_sub64 x y c hx hx1 hy hy1 hc0 hc]
  rfl

def most (c : Int) : Int := max c 0 / 32
theorem most_bd (a : Int) (h1 : a ≤ 9223372036854775807) : 0 ≤ most a ∧ most a ≤ 288230376151711743 := by unfold most; omega

set_option maxHeartbeats 400000 in
theorem most_any (a : Int) (w : World) (h0 : -9223372036854775808 ≤ a) (h1 : a ≤ 9223372036854775807) :
  Calls Try.prog 17 #[.int .i64 a] w fun e w' => e = .returned (.int .u64 (most a)) ∧ w = w' := by
  go_enter Try.func17, Try.ntmps17
  go_wp2
  all_goals go_ret
  all_goals exact ⟨ret_int (by unfold most; omega), rfl⟩

set_option maxHeartbeats 400000 in
theorem rmost_any (a : Int) (w : World) (h0 : -9223372036854775808 ≤ a) (h1 : a ≤ 9223372036854775807) :
  Calls Try.prog 21 #[.int .i64 a] w fun e w' => e = .returned (.int .u64 (most a)) ∧ w = w' := by
  go_enter Try.func21, Try.ntmps21
  go_wp2
  all_goals go_ret
  all_goals exact ⟨ret_int (by unfold most; omega), rfl⟩

/-- EncodeCount -/
def enc (c m : Int) : Int := if c = 0 ∨ m = 0 then 0 else c % (2 * m) + 1
theorem enc_bd (c m : Int) (c0 : 0 ≤ c) (m0 : 0 ≤ m) : 0 ≤ enc c m ∧ (0 < m → enc c m ≤ 2 * m) := by
  unfold enc
  have h2 : 0 < m → 0 ≤ c % (2 * m) ∧ c % (2 * m) < (2 * m) := fun h => ⟨Int.emod_nonneg _ (by omega), Int.emod_lt_of_pos _ (by omega)⟩
  by_cases h : c = 0 ∨ m = 0
  · simp [h]; omega
  · rw [if_neg h]; omega

set_option maxHeartbeats 400000 in
theorem enc_any (c a : Int) (w : World) (c0 : 0 ≤ c) (c1 : c ≤ 18446744073709551615) (h0 : -9223372036854775808 ≤ a) (h1 : a ≤ 9223372036854775807) :
  Calls Try.prog 9 #[.int .u64 c, .int .i64 a] w fun e w' => e = .returned (.int .u64 (enc c (most a))) ∧ w = w' := by
  obtain ⟨m0, m1⟩ := most_bd a h1
  have hcon := fun w => most_any a w h0 h1
  generalize most a = m at *
  by_cases hc : c = 0
  · have e1 : enc c m = 0 := by simp [enc, hc]
    rw [e1]; subst hc; clear e1
    go_enter Try.func9, Try.ntmps9
    go_wp2_with (go_at_call 17; refine (hcon _).mono ?_; rintro e w' ⟨rfl, rfl⟩)
    go_ret
    exact ⟨rfl, rfl⟩
  · by_cases hm : m = 0
    · have e1 : enc c m = 0 := by simp [enc, hm]
      rw [e1]; subst hm; clear e1
      have hc' : (c == 0) = false := by simpa using hc
      go_enter Try.func9, Try.ntmps9
      go_wp2_with (go_at_call 17; refine (hcon _).mono ?_; rintro e w' ⟨rfl, rfl⟩)
      go_ret
      exact ⟨rfl, rfl⟩
    · have e1 : enc c m = c % (2 * m) + 1 := by simp [enc, hm, hc]
      rw [e1]; clear e1
      have hb : 0 ≤ c % (2 * m) := Int.emod_nonneg _ (by omega)
      have hb2 : c % (2 * m) < (2 * m) := Int.emod_lt_of_pos _ (by omega)
      have hc' : (c == 0) = false := by simpa using hc
      have hm' : (m == 0) = false := by simpa using hm
      have hm2 : 0 < 2 * m := by omega
      have hm3 : ¬ (2 * m = 0) := by omega
      go_enter Try.func9, Try.ntmps9
      go_wp2_with (go_at_call 17; refine (hcon _).mono ?_; rintro e w' ⟨rfl, rfl⟩)
      go_ret
      exact ⟨rfl, rfl⟩

set_option maxHeartbeats 400000 in
theorem renc_any (c a : Int) (w : World) (c0 : 0 ≤ c) (c1 : c ≤ 18446744073709551615) (h0 : -9223372036854775808 ≤ a) (h1 : a ≤ 9223372036854775807) :
  Calls Try.prog 10 #[.int .u64 c, .int .i64 a] w fun e w' => e = .returned (.int .u64 (enc c (most a))) ∧ w = w' := by
  obtain ⟨m0, m1⟩ := most_bd a h1
  have hcon := fun w => rmost_any a w h0 h1
  generalize most a = m at *
  by_cases hc : c = 0
  · have e1 : enc c m = 0 := by simp [enc, hc]
    rw [e1]; subst hc; clear e1
    go_enter Try.func10, Try.ntmps10
    go_wp2_with (go_at_call 21; refine (hcon _).mono ?_; rintro e w' ⟨rfl, rfl⟩)
    go_ret
    exact ⟨rfl, rfl⟩
  · by_cases hm : m = 0
    · have e1 : enc c m = 0 := by simp [enc, hm]
      rw [e1]; subst hm; clear e1
      have hc' : (c == 0) = false := by simpa using hc
      go_enter Try.func10, Try.ntmps10
      go_wp2_with (go_at_call 21; refine (hcon _).mono ?_; rintro e w' ⟨rfl, rfl⟩)
      go_ret
      exact ⟨rfl, rfl⟩
    · have e1 : enc c m = c % (2 * m) + 1 := by simp [enc, hm, hc]
      rw [e1]; clear e1
      have hb : 0 ≤ c % (2 * m) := Int.emod_nonneg _ (by omega)
      have hb2 : c % (2 * m) < (2 * m) := Int.emod_lt_of_pos _ (by omega)
      have hc' : (c == 0) = false := by simpa using hc
      have hm' : (m == 0) = false := by simpa using hm
      have hm2 : 0 < 2 * m := by omega
      have hm3 : ¬ (2 * m = 0) := by omega
      go_enter Try.func10, Try.ntmps10
      go_wp2_with (go_at_call 21; refine (hcon _).mono ?_; rintro e w' ⟨rfl, rfl⟩)
      go_ret
      exact ⟨rfl, rfl⟩

/-- Relative, Post -/
def rel (b i : Int) : Int × Bool := if b ≤ i then (0, false) else (b - 1 - i, true)
def post (b i : Int) : Int × Bool := if b + i ≤ 4611686018427387903 then (b + i, true) else (0, false)

set_option maxHeartbeats 400000 in
theorem rel_any (b i : Int) (w : World) (b0 : 0 ≤ b) (b1 : b ≤ 18446744073709551615) (i0 : 0 ≤ i) (i1 : i ≤ 18446744073709551615) :
  Calls Try.prog 11 #[.int .u64 b, .int .u64 i] w fun e w' => e = .returned (.tuple #[.int .u64 (rel b i).1, .bool (rel b i).2]) ∧ w = w' := by
  go_enter Try.func11, Try.ntmps11
  go_wp2
  all_goals go_ret2
  · exact ⟨ret_ib (by unfold rel; rw [if_pos (by omega)]) (by unfold rel; rw [if_pos (by omega)]), rfl⟩
  · exact ⟨ret_ib (by unfold rel; rw [if_neg (by omega)]) (by unfold rel; rw [if_neg (by omega)]), rfl⟩

set_option maxHeartbeats 400000 in
theorem rrel_any (b i : Int) (w : World) (b0 : 0 ≤ b) (b1 : b ≤ 18446744073709551615) (i0 : 0 ≤ i) (i1 : i ≤ 18446744073709551615) :
  Calls Try.prog 12 #[.int .u64 b, .int .u64 i] w fun e w' => e = .returned (.tuple #[.int .u64 (rel b i).1, .bool (rel b i).2]) ∧ w = w' := by
  go_enter Try.func12, Try.ntmps12
  go_wp2
  all_goals go_ret2
  · exact ⟨ret_ib (by unfold rel; rw [if_pos (by omega)]) (by unfold rel; rw [if_pos (by omega)]), rfl⟩
  · exact ⟨ret_ib (by unfold rel; rw [if_neg (by omega)]) (by unfold rel; rw [if_neg (by omega)]), rfl⟩

set_option maxHeartbeats 400000 in
theorem post_any (b i : Int) (w : World) (b0 : 0 ≤ b) (b1 : b ≤ 18446744073709551615) (i0 : 0 ≤ i) (i1 : i ≤ 18446744073709551615) :
  Calls Try.prog 13 #[.int .u64 b, .int .u64 i] w fun e w' => e = .returned (.tuple #[.int .u64 (post b i).1, .bool (post b i).2]) ∧ w = w' := by
  have hadd := add64 b i 0 b0 i0 (by omega) (by omega)
  by_cases h1 : b + i < 18446744073709551616
  · have e1 : (b + i + 0) % 18446744073709551616 = b + i := by omega
    have e2 : (b + i + 0) / 18446744073709551616 = 0 := by omega
    simp only [e1, e2] at hadd
    clear e1 e2
    go_enter Try.func13, Try.ntmps13
    go_wp2
    all_goals go_ret2
    · exact ⟨ret_ib (by unfold post; rw [if_neg (by omega)]) (by unfold post; rw [if_neg (by omega)]), rfl⟩
    · exact ⟨ret_ib (by unfold post; rw [if_pos (by omega)]) (by unfold post; rw [if_pos (by omega)]), rfl⟩
  · have e1 : (b + i + 0) % 18446744073709551616 = b + i - 18446744073709551616 := by omega
    have e2 : (b + i + 0) / 18446744073709551616 = 1 := by omega
    simp only [e1, e2] at hadd
    clear e1 e2
    go_enter Try.func13, Try.ntmps13
    go_wp2
    all_goals go_ret2
    · exact ⟨ret_ib (by unfold post; rw [if_neg (by omega)]) (by unfold post; rw [if_neg (by omega)]), rfl⟩

set_option maxHeartbeats 400000 in
theorem rpost_any (b i : Int) (w : World) (b0 : 0 ≤ b) (b1 : b ≤ 18446744073709551615) (i0 : 0 ≤ i) (i1 : i ≤ 18446744073709551615) :
  Calls Try.prog 14 #[.int .u64 b, .int .u64 i] w fun e w' => e = .returned (.tuple #[.int .u64 (post b i).1, .bool (post b i).2]) ∧ w = w' := by
  by_cases h1 : 4611686018427387903 < b
  · go_enter Try.func14, Try.ntmps14
    go_wp2
    all_goals go_ret2
    all_goals exact ⟨ret_ib (by unfold post; rw [if_neg (by omega)]) (by unfold post; rw [if_neg (by omega)]), rfl⟩
  · by_cases h2 : 4611686018427387903 - b < i
    · go_enter Try.func14, Try.ntmps14
      go_wp2
      all_goals go_ret2
      all_goals exact ⟨ret_ib (by unfold post; rw [if_neg (by omega)]) (by unfold post; rw [if_neg (by omega)]), rfl⟩
    · go_enter Try.func14, Try.ntmps14
      go_wp2
      all_goals go_ret2
      all_goals exact ⟨ret_ib (by unfold post; rw [if_pos (by omega)]) (by unfold post; rw [if_pos (by omega)]), rfl⟩
end Go.Proofs.Ytkfpcihkibnbnaa.Q
