/- bifoldref26.Dec: a number's text, and what it is worth. A number below 2^62. -/
import Derived.BigQuiet
import Derived.Deep.CutBlock
import Derived.Lib.Hide
import Derived.IntWalk
import Derived.Test.YtpojejdddgdjdaaGreatDoorSr
namespace Go.Proofs.YtpojejdddgdjdaaGreatDoor.M
open Go.ChangeShapes Go.WideShapes Go.ChangeAt Go.RowKit

def digB (n : Nat) : UInt8 := UInt8.ofNat (48 + n)
/-- a number's digits -/
def decB (n : Nat) : Bytes := if _h : n < 10 then [digB n] else decB (n / 10) ++ [digB (n % 10)]
termination_by n
decreasing_by omega
theorem decB_lt {n : Nat} (h : n < 10) : decB n = [digB n] := by rw [decB, dif_pos h]
theorem decB_ge {n : Nat} (h : ¬ n < 10) : decB n = decB (n / 10) ++ [digB (n % 10)] := by rw [decB, dif_neg h]
theorem digB_nat {n : Nat} (h : n < 10) : (digB n).toNat = 48 + n := by unfold digB; rw [UInt8.toNat_ofNat']; omega
theorem digB_dig {n : Nat} (h : n < 10) : dig (digB n) = true := by
  unfold dig
  rw [digB_nat h]
  exact decide_eq_true (by omega)
theorem decB_dig (n : Nat) : (decB n).all dig = true := by
  induction n using Nat.strongRecOn with
  | ind n ih =>
    by_cases h : n < 10
    · rw [decB_lt h]; simp [digB_dig h]
    · rw [decB_ge h, List.all_append, ih _ (by omega)]
      simp [digB_dig (show n % 10 < 10 by omega)]
theorem decB_num (n : Nat) : numF 0 (decB n) = n := by
  induction n using Nat.strongRecOn with
  | ind n ih =>
    by_cases h : n < 10
    · rw [decB_lt h]
      show 10 * 0 + ((digB n).toNat - 48) = n
      rw [digB_nat h]
      omega
    · rw [decB_ge h, numF_snoc, ih _ (by omega), digB_nat (show n % 10 < 10 by omega)]
      omega
theorem decB_pos (n : Nat) : 0 < (decB n).length := by
  by_cases h : n < 10
  · rw [decB_lt h]; simp
  · rw [decB_ge h, List.length_append]; simp
theorem decB_len (k : Nat) : ∀ n : Nat, n < 10 ^ (k + 1) → (decB n).length ≤ k + 1 := by
  induction k with
  | zero => intro n h; rw [decB_lt (by simpa using h)]; simp
  | succ k ih =>
    intro n h
    by_cases h2 : n < 10
    · rw [decB_lt h2]; simp
    · rw [decB_ge h2, List.length_append]
      have := ih (n / 10) (by rw [Nat.pow_succ] at h; exact Nat.div_lt_of_lt_mul (by omega))
      simp only [List.length_singleton]
      omega
theorem dig_cut (n : Nat) (h : n < 10) : (⟨#[48, 49, 50, 51, 52, 53, 54, 55, 56, 57]⟩ : ByteArray).extract n (n + 1) = ⟨(decB n).toArray⟩ := by
  rw [decB_lt h]
  obtain rfl | rfl | rfl | rfl | rfl | rfl | rfl | rfl | rfl | rfl : n = 0 ∨ n = 1 ∨ n = 2 ∨ n = 3 ∨ n = 4 ∨ n = 5 ∨ n = 6 ∨ n = 7 ∨ n = 8 ∨ n = 9 := by omega
  all_goals decide
theorem run_strcut (s : ByteArray) (i j : Nat) (w : World) (hij : i ≤ j) (hj : j ≤ s.size) (u v : Int) (hu : u = (i : Int)) (hv : v = (j : Int)) :
    (Instr.slice 9 (.string s) (some (.int .i64 u)) (some (.int .i64 v)) none).run Tryz.prog w = .ok (.string (s.extract i j)) w := by
  subst hu hv
  have h3 : (0 : Int) ≤ (i : Int) := by omega
  have h4 : (0 : Int) ≤ (j : Int) := by omega
  simp [Instr.slice, Instr.sliceBounds, Instr.sliceBound, run_underlying Tryz.underlying9, asIntOf, h3, h4, hij, hj]
set_option maxRecDepth 100000 in
set_option maxHeartbeats 1000000 in
theorem rdec_any (n : Nat) : ∀ (w : World), n ≤ 4611686018427387903 → Calls Tryz.prog 12 #[.int .i64 (n : Int)] w fun e w' => e = .returned (.string ⟨(decB n).toArray⟩) ∧ w = w' := by
  induction n using Nat.strongRecOn with
  | ind n ih =>
    intro w hb
    by_cases h : n < 10
    · have hd := dig_cut n h
      have h2 : (n : Int) < 10 := by omega
      have h10 : n + 1 ≤ 10 := by omega
      go_enter Tryz.func12, Tryz.ntmps12
      have hcut := run_strcut ⟨#[48, 49, 50, 51, 52, 53, 54, 55, 56, 57]⟩ n (n + 1) w (by omega) h10 (n : Int) ((n : Int) + 1) rfl (by omega)
      rw [hd] at hcut
      go_wp2_with (fail)
      go_ret
      exact ⟨rfl, rfl⟩
    · have h2 : ¬ (n : Int) < 10 := by omega
      have i1 := fun w => ih (n / 10) (by omega) w (by omega)
      have i2 := fun w => ih (n % 10) (by omega) w (by omega)
      have e1 : ((n / 10 : Nat) : Int) = (n : Int) / 10 := by omega
      have e2 : ((n % 10 : Nat) : Int) = (n : Int) % 10 := by omega
      rw [e1] at i1
      rw [e2] at i2
      rw [decB_ge h]
      have hone : decB (n % 10) = [digB (n % 10)] := decB_lt (by omega)
      rw [hone] at i2
      have I1 := Lib.hid i1
      have I2 := Lib.hid i2
      clear i1 i2
      clear e1 e2 hone ih
      have hal : (decB (n / 10)).length ≤ 19 := decB_len 18 (n / 10) (Nat.lt_of_le_of_lt (show n / 10 ≤ 461168601842738790 by omega) (by decide))
      generalize decB (n / 10) = a at *
      have hcat : (⟨a.toArray⟩ : ByteArray) ++ ⟨#[digB (n % 10)]⟩ = ⟨(a ++ [digB (n % 10)]).toArray⟩ := by
        apply ByteArray.ext
        simp
      have hal2 : ¬ 9223372036854775807 < a.length + 1 := by omega
      go_enter Tryz.func12, Tryz.ntmps12
      go_wp2_with (fail)
      refine (I1.out _).mono ?_
      rintro e w' ⟨rfl, hw⟩
      rw [← hw]
      clear hw w'
      have htm : Int.tmod (n : Int) 10 = (n : Int) % 10 := Int.tmod_eq_emod_of_nonneg (by omega)
      go_wp2_with (fail)
      refine (I2.out _).mono ?_
      rintro e w' ⟨rfl, hw⟩
      rw [← hw]
      clear hw w'
      go_wp2_with (fail)
      go_ret
      exact ⟨rfl, rfl⟩
end Go.Proofs.YtpojejdddgdjdaaGreatDoor.M
