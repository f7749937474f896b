/- field.sign, Name, Value, Pseudo and the document's: what they return. No condition but sizes. -/
import Derived.BigQuiet
import Derived.Deep.CutBlock
import Derived.Lib.Hide
import Derived.IntWalk
import Derived.Test.YtpojejdddgdjdaaDoorSh
namespace Go.Proofs.YtpojejdddgdjdaaDoor.M
open Go.ChangeShapes Go.WideShapes Go.ChangeAt Go.RowKit

def more : Bytes := [33, 35, 36, 37, 38, 39, 42, 43, 45, 46, 94, 95, 96, 124, 126]
def sgn (c : UInt8) : Bool := decide (97 ≤ c.toNat ∧ c.toNat ≤ 122) || decide (48 ≤ c.toNat ∧ c.toNat ≤ 57) || more.contains c
theorem index_more (c : UInt8) : decide (0 ≤ Lib.indexByte more c) = more.contains c := by
  have h : ∀ n : Fin 256, decide (0 ≤ Lib.indexByte more (UInt8.ofNat n.val)) = more.contains (UInt8.ofNat n.val) := by decide +kernel
  have := h ⟨c.toNat, c.toNat_lt⟩
  simpa using this
set_option maxRecDepth 100000 in
set_option maxHeartbeats 1000000 in
theorem sign_any (c : UInt8) (w : World) : Calls Tryd.prog 56 #[.int .u8 (c.toNat : Int)] w fun e w' => e = .returned (.bool (sgn c)) ∧ w = w' := by
  have hi := index_any more c w
  have hm := index_more c
  have hS : Hid (sgn c = (decide (97 ≤ c.toNat ∧ c.toNat ≤ 122) || decide (48 ≤ c.toNat ∧ c.toNat ≤ 57) || more.contains c)) := rfl
  have hb : (c.toNat : Int) ≤ 255 := by have := c.toNat_lt; omega
  generalize Lib.indexByte more c = k at *
  generalize more.contains c = mc at *
  generalize c.toNat = n at *
  generalize sgn c = r at *
  have HI := Lib.hid hi
  have HM := Lib.hid hm
  clear hi hm
  by_cases a1 : (97 : Int) ≤ n <;> by_cases a2 : (n : Int) ≤ 122 <;> by_cases b1 : (48 : Int) ≤ n <;> by_cases b2 : (n : Int) ≤ 57
  all_goals first
    | (exfalso; omega)
    | (go_enter Tryd.func56, Tryd.ntmps56
       go_wp2_with (go_at_call 70; refine HI.out.mono ?_; rintro e w' ⟨rfl, rfl⟩)
       go_ret
       refine ⟨ret_bool ?_, rfl⟩
       rw [hS.out]
       first
         | (rw [show decide (97 ≤ n ∧ n ≤ 122) = true from decide_eq_true (by omega)]; rfl)
         | (rw [show decide (97 ≤ n ∧ n ≤ 122) = false from decide_eq_false (by omega), show decide (48 ≤ n ∧ n ≤ 57) = true from decide_eq_true (by omega)]; rfl)
         | (rw [show decide (97 ≤ n ∧ n ≤ 122) = false from decide_eq_false (by omega), show decide (48 ≤ n ∧ n ≤ 57) = false from decide_eq_false (by omega), ← HM.out]; rfl))
/-- a name may be so -/
def nameOk (s : Bytes) : Bool := s.all sgn && !s.isEmpty
theorem all_step (p : UInt8 → Bool) (s : Bytes) (k : Nat) (hk : k < s.length) (h : (s.take k).all p = true) (h2 : p s[k] = true) : (s.take (k + 1)).all p = true := by
  rw [List.take_succ_eq_append_getElem hk, List.all_append, h]
  simp [h2]
theorem all_no (p : UInt8 → Bool) (s : Bytes) (k : Nat) (hk : k < s.length) (h2 : p s[k] = false) : s.all p = false := by
  rw [Bool.eq_false_iff]
  intro h
  rw [List.all_eq_true] at h
  have := h _ (List.getElem_mem hk)
  rw [h2] at this
  cases this
set_option maxRecDepth 100000 in
set_option maxHeartbeats 1000000 in
theorem name_any (s : Bytes) (w : World) (hs : s.length ≤ 9223372036854775807) : Calls Tryd.prog 37 #[.string ⟨s.toArray⟩] w fun e w' => e = .returned (.bool (nameOk s)) ∧ w = w' := by
  obtain ⟨r, hr⟩ : ∃ r, r = nameOk s := ⟨_, rfl⟩
  rw [← hr]
  have HR := Lib.hid hr
  clear hr
  go_enter Tryd.func37, Tryd.ntmps37
  go_wp2_with (fail)
  go_loop [6] (fun v6 => ∃ k : Nat, k ≤ s.length ∧ v6 = .int .i64 k ∧ Hid ((s.take k).all sgn = true)) (fun v6 => s.length - (intOf v6).toNat)
  case atStart => exact ⟨0, Nat.zero_le _, rfl, rfl⟩
  case round =>
    obtain ⟨k, hk, rfl, hall⟩ := hrel
    by_cases hlt : k < s.length
    · have hc := sign_any s[k] w
      cases hp : sgn s[k] with
      | true =>
        rw [hp] at hc
        have HC := Lib.hid hc
        have HP := Lib.hid hp
        clear hc hp
        go_wp2_with (go_at_call 56; refine HC.out.mono ?_; rintro e w' ⟨rfl, rfl⟩)
        go_round
        case rel => exact ⟨k + 1, by omega, by go_num, all_step _ _ _ hlt hall.out HP.out⟩
        case measure => simp [intOf]; omega
      | false =>
        rw [hp] at hc
        have HC := Lib.hid hc
        have HP := Lib.hid hp
        clear hc hp
        go_wp2_with (go_at_call 56; refine HC.out.mono ?_; rintro e w' ⟨rfl, rfl⟩)
        go_ret
        refine ⟨ret_bool ?_, rfl⟩
        rw [HR.out]
        unfold nameOk
        rw [all_no _ _ _ hlt HP.out]
        rfl
    · obtain rfl : k = s.length := by omega
      have hal := hall.out
      rw [List.take_of_length_le (Nat.le_refl _)] at hal
      have hr2 : r = !s.isEmpty := by rw [HR.out]; unfold nameOk; rw [hal]; rfl
      have HR2 := Lib.hid hr2
      clear hr2
      cases s with
      | nil =>
        go_wp2_with (fail)
        go_ret
        exact ⟨ret_bool (by rw [HR2.out]; rfl), rfl⟩
      | cons c t =>
        go_wp2_with (fail)
        go_ret
        exact ⟨ret_bool (by rw [HR2.out]; rfl), rfl⟩
set_option maxRecDepth 100000 in
set_option maxHeartbeats 1000000 in
theorem blank_any (c : UInt8) (w : World) : Calls Tryd.prog 58 #[.int .u8 (c.toNat : Int)] w fun e w' => e = .returned (.bool (decide (c.toNat = 32) || decide (c.toNat = 9))) ∧ w = w' := by
  have hb : (c.toNat : Int) ≤ 255 := by have := c.toNat_lt; omega
  generalize c.toNat = n at *
  by_cases a : n = 32
  · subst a
    go_enter Tryd.func58, Tryd.ntmps58
    go_wp2
    go_ret
    exact ⟨rfl, rfl⟩
  · have a1 : ((n : Int) == 32) = false := by rw [beq_eq_false_iff_ne]; omega
    by_cases b : n = 9
    · subst b
      go_enter Tryd.func58, Tryd.ntmps58
      go_wp2
      go_ret
      exact ⟨rfl, rfl⟩
    · have b1 : ((n : Int) == 9) = false := by rw [beq_eq_false_iff_ne]; omega
      go_enter Tryd.func58, Tryd.ntmps58
      go_wp2
      go_ret
      exact ⟨ret_bool (by simp [a, b]), rfl⟩
set_option maxRecDepth 100000 in
set_option maxHeartbeats 1000000 in
theorem pseudo_any (s : Bytes) (w : World) : Calls Tryd.prog 35 #[.string ⟨s.toArray⟩] w fun e w' => e = .returned (.bool (decide (s.head? = some 58))) ∧ w = w' := by
  cases s with
  | nil =>
    go_enter Tryd.func35, Tryd.ntmps35
    go_wp2
    go_ret
    exact ⟨rfl, rfl⟩
  | cons c t =>
    by_cases h : c = 58
    · subst h
      go_enter Tryd.func35, Tryd.ntmps35
      go_wp2
      go_ret
      exact ⟨rfl, rfl⟩
    · have h1 : ((c.toNat : Int) == 58) = false := by
        rw [beq_eq_false_iff_ne]
        intro e
        apply h
        apply UInt8.toNat_inj.1
        show c.toNat = 58
        omega
      go_enter Tryd.func35, Tryd.ntmps35
      go_wp2
      go_ret
      refine ⟨ret_bool ?_, rfl⟩
      rw [show decide ((c :: t).head? = some 58) = false from decide_eq_false (by simp [h])]
      exact h1
end Go.Proofs.YtpojejdddgdjdaaDoor.M
