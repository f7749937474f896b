/- field.Value, blank and the document's Name, Value, Pseudo: what they return. No condition but sizes. -/
import Derived.BigQuiet
import Derived.Deep.CutBlock
import Derived.Lib.Hide
import Derived.IntWalk
import Derived.Test.YtpojejdddgdjdaaGreatDoorSa
namespace Go.Proofs.YtpojejdddgdjdaaGreatDoor.M
open Go.ChangeShapes Go.WideShapes Go.ChangeAt Go.RowKit

def wht (c : UInt8) : Bool := decide (c.toNat = 32) || decide (c.toNat = 9)
def okc (c : UInt8) : Bool := !(decide (c.toNat = 0) || decide (c.toNat = 13) || decide (c.toNat = 10))
/-- a value may be so -/
def valOk : Bytes → Bool
  | [] => true
  | c :: t => (c :: t).all okc && (!wht c && !wht ((c :: t)[t.length]'(by simp)))
theorem valOk_no (s : Bytes) (h : s.all okc = false) : valOk s = false := by
  cases s with
  | nil => simp at h
  | cons c t => show ((c :: t).all okc && _) = false; rw [h]; rfl
set_option maxRecDepth 100000 in
set_option maxHeartbeats 1000000 in
theorem rblank_wht (c : UInt8) (w : World) : Calls Tryz.prog 72 #[.int .u8 (c.toNat : Int)] w fun e w' => e = .returned (.bool (wht c)) ∧ w = w' := by
  have hb : (c.toNat : Int) ≤ 255 := by have := c.toNat_lt; omega
  unfold wht
  generalize c.toNat = n at *
  by_cases a : n = 32
  · subst a
    go_enter Tryz.func72, Tryz.ntmps72
    go_wp2
    go_ret
    exact ⟨rfl, rfl⟩
  · have a1 : ((n : Int) == 32) = false := by rw [beq_eq_false_iff_ne]; omega
    by_cases b : n = 9
    · subst b
      go_enter Tryz.func72, Tryz.ntmps72
      go_wp2
      go_ret
      exact ⟨rfl, rfl⟩
    · have b1 : ((n : Int) == 9) = false := by rw [beq_eq_false_iff_ne]; omega
      go_enter Tryz.func72, Tryz.ntmps72
      go_wp2
      go_ret
      exact ⟨ret_bool (by simp [a, b]), rfl⟩
set_option maxRecDepth 100000 in
set_option maxHeartbeats 1000000 in
theorem rpseudo_any (s : Bytes) (w : World) : Calls Tryz.prog 45 #[.string ⟨s.toArray⟩] w fun e w' => e = .returned (.bool (decide (s.head? = some 58))) ∧ w = w' := by
  cases s with
  | nil =>
    go_enter Tryz.func45, Tryz.ntmps45
    go_wp2
    go_ret
    exact ⟨rfl, rfl⟩
  | cons c t =>
    by_cases h : c = 58
    · subst h
      go_enter Tryz.func45, Tryz.ntmps45
      go_wp2
      go_ret
      exact ⟨rfl, rfl⟩
    · have h1 : ((c.toNat : Int) == 58) = false := by
        rw [beq_eq_false_iff_ne]
        intro e
        apply h
        apply UInt8.toNat_inj.1
        show c.toNat = 58
        omega
      go_enter Tryz.func45, Tryz.ntmps45
      go_wp2
      go_ret
      refine ⟨ret_bool ?_, rfl⟩
      rw [show decide ((c :: t).head? = some 58) = false from decide_eq_false (by simp [h])]
      exact h1

set_option maxRecDepth 100000 in
set_option maxHeartbeats 2000000 in
theorem rvalue_any (s : Bytes) (w : World) (hs : s.length ≤ 9223372036854775807) : Calls Tryz.prog 61 #[.string ⟨s.toArray⟩] w fun e w' => e = .returned (.bool (valOk s)) ∧ w = w' := by
  obtain ⟨r, hr⟩ : ∃ r, r = valOk s := ⟨_, rfl⟩
  rw [← hr]
  have HR := Lib.hid hr
  clear hr
  go_enter Tryz.func61, Tryz.ntmps61
  go_wp2_with (fail)
  go_loop [3] (fun v6 => ∃ k : Nat, k ≤ s.length ∧ v6 = .int .i64 k ∧ Hid ((s.take k).all okc = true)) (fun v6 => s.length - (intOf v6).toNat)
  case atStart => exact ⟨0, Nat.zero_le _, rfl, rfl⟩
  case round =>
    obtain ⟨k, hk, rfl, hall⟩ := hrel
    by_cases hlt : k < s.length
    · have hkb : k < (⟨s.toArray⟩ : ByteArray).size := by simpa [ByteArray.size] using hlt
      have hsk : ((⟨s.toArray⟩ : ByteArray)[k]'hkb) = s[k] := rfl
      have hno : okc s[k] = false → r = false := fun h => by rw [HR.out]; exact valOk_no _ (all_no _ _ _ hlt h)
      by_cases h0 : s[k].toNat = 0
      · have e0 : ((s[k].toNat : Int) == 0) = true := by rw [beq_iff_eq]; omega
        have hrf := hno (by unfold okc; simp [h0])
        have HRF := Lib.hid hrf
        clear hrf
        clear hno
        go_wp2_with (fail)
        go_ret
        exact ⟨ret_bool HRF.out.symm, rfl⟩
      have e0 : ((s[k].toNat : Int) == 0) = false := by rw [beq_eq_false_iff_ne]; omega
      by_cases h13 : s[k].toNat = 13
      · have e13 : ((s[k].toNat : Int) == 13) = true := by rw [beq_iff_eq]; omega
        have e10 : ((s[k].toNat : Int) == 10) = false := by rw [beq_eq_false_iff_ne]; omega
        have hrf := hno (by unfold okc; simp [h13])
        have HRF := Lib.hid hrf
        clear hrf
        clear hno
        go_wp2_with (fail)
        go_ret
        exact ⟨ret_bool HRF.out.symm, rfl⟩
      have e13 : ((s[k].toNat : Int) == 13) = false := by rw [beq_eq_false_iff_ne]; omega
      by_cases h10 : s[k].toNat = 10
      · have e10 : ((s[k].toNat : Int) == 10) = true := by rw [beq_iff_eq]; omega
        have hrf := hno (by unfold okc; simp [h10])
        have HRF := Lib.hid hrf
        clear hrf
        clear hno
        go_wp2_with (fail)
        go_ret
        exact ⟨ret_bool HRF.out.symm, rfl⟩
      have e10 : ((s[k].toNat : Int) == 10) = false := by rw [beq_eq_false_iff_ne]; omega
      have hok : okc s[k] = true := by unfold okc; simp [h0, h13, h10]
      have HOK := Lib.hid hok
      clear hok
      clear hno
      go_wp2_with (fail)
      go_round
      case rel => exact ⟨k + 1, by omega, by go_num, all_step _ _ _ hlt hall.out HOK.out⟩
      case measure => simp [intOf]; omega
    · obtain rfl : k = s.length := by omega
      have hal := hall.out
      rw [List.take_of_length_le (Nat.le_refl _)] at hal
      have HAL := Lib.hid hal
      clear hal
      clear hall
      cases s with
      | nil =>
        go_wp2_with (fail)
        go_ret
        exact ⟨ret_bool (by rw [HR.out]; rfl), rfl⟩
      | cons c t =>
        have hr2 : r = (!wht c && !wht ((c :: t)[t.length]'(by simp))) := by rw [HR.out]; show ((c :: t).all okc && _) = _; rw [HAL.out]; rfl
        have hc1 := rblank_wht c w
        obtain ⟨z, hz⟩ : ∃ z, z = (c :: t)[t.length]'(by simp) := ⟨_, rfl⟩
        rw [← hz] at hr2
        have hc2 := rblank_wht ((c :: t)[t.length]'(by simp)) w
        rw [← hz] at hc2
        have ht : (t.length : Int) + 1 ≤ 9223372036854775807 := by simp only [List.length_cons] at hs; omega
        have htb : t.length < (⟨(c :: t).toArray⟩ : ByteArray).size := by simp [ByteArray.size]
        have hsl : ((⟨(c :: t).toArray⟩ : ByteArray)[t.length]'htb) = (c :: t)[t.length]'(by simp) := rfl
        cases hb1 : wht c with
        | true =>
          rw [hb1] at hc1 hr2
          have HC1 := Lib.hid hc1
          have HR2 := Lib.hid hr2
          have HB1 := Lib.hid hb1
          have HZ := Lib.hid hz
          have HC2 := Lib.hid hc2
          clear hc1 hr2 hb1 hz hc2
          go_wp2_with (go_at_call 72; refine HC1.out.mono ?_; rintro e w' ⟨rfl, rfl⟩)
          go_ret
          exact ⟨ret_bool (by rw [HR2.out]; rfl), rfl⟩
        | false =>
          rw [hb1] at hc1 hr2
          have hr3 : r = !wht z := hr2
          cases hb2 : wht z with
          | true =>
            rw [hb2] at hc2 hr3
            rw [hz] at hc2
            have HC1 := Lib.hid hc1
            have HR3 := Lib.hid hr3
            have HB1 := Lib.hid hb1
            have HB2 := Lib.hid hb2
            have HZ := Lib.hid hz
            have HC2 := Lib.hid hc2
            clear hc1 hr3 hb1 hb2 hz hc2
            clear hr2
            have t1 := trivial
            go_wp2_with (first
              | (clear t1; go_at_call 72; refine HC1.out.mono ?_; rintro e w' ⟨rfl, rfl⟩)
              | (go_at_call 72; refine HC2.out.mono ?_; rintro e w' ⟨rfl, rfl⟩))
            go_ret
            exact ⟨ret_bool (by rw [HR3.out]; rfl), rfl⟩
          | false =>
            rw [hb2] at hc2 hr3
            rw [hz] at hc2
            have HC1 := Lib.hid hc1
            have HR3 := Lib.hid hr3
            have HB1 := Lib.hid hb1
            have HB2 := Lib.hid hb2
            have HZ := Lib.hid hz
            have HC2 := Lib.hid hc2
            clear hc1 hr3 hb1 hb2 hz hc2
            clear hr2
            have t1 := trivial
            go_wp2_with (first
              | (clear t1; go_at_call 72; refine HC1.out.mono ?_; rintro e w' ⟨rfl, rfl⟩)
              | (go_at_call 72; refine HC2.out.mono ?_; rintro e w' ⟨rfl, rfl⟩))
            go_ret
            exact ⟨ret_bool (by rw [HR3.out]; rfl), rfl⟩

end Go.Proofs.YtpojejdddgdjdaaGreatDoor.M
